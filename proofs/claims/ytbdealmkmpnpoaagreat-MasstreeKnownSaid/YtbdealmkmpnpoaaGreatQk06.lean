import Derived.Lib.SliceRun
import Derived.Deep.RegionLaw
import Derived.Laws.MakeOwn
import Derived.Test.YtbdealmkmpnpoaaGreatChecked
import Derived.WalkKit
import Derived.WalkLawsBesides
import Derived.WalkSpells
import Derived.Outline
import Derived.BigQuiet
import Derived.WalkSmall
import Derived.Deep.RegionHeld3
import Derived.Deep.OwnRows
import Derived.RegionTactic
import Derived.BigRegion
import Derived.LoopTactic
import Derived.MapKept
import Derived.Maps.RangeWalk
import Derived.Laws.Tables
import Derived.Deep.MidRow
import Derived.Test.YtbdealmkmpnpoaaGreatQk01
import Derived.Test.YtbdealmkmpnpoaaGreatQk02
import Derived.Test.YtbdealmkmpnpoaaGreatQk03
import Derived.Test.YtbdealmkmpnpoaaGreatQk04
import Derived.Test.YtbdealmkmpnpoaaGreatQk05
set_option linter.all false
namespace Go.Proofs.YtbdealmkmpnpoaaGreat.M
open Go.Lib
def turnL (F:List Ly) (l0 l1:Ly):List Ly:=F.map fun l=>if l.pre=l0.pre then l1 else l
def PM (F:List Ly) (k v:Str):Prop:=∃ l,l∈F∧∃ x,x∈content l.Ls∧x.2.deep=false∧bl k=l.pre++sb x.2∧v=x.2.val
section
variable {F N:List Ly} {C:Cont Str} {k v:Str} {i:Nat} {l l0 l1 lp:Ly} {s so:Sl}
theorem MCt.pm (h:MCt F C) (k v:Str):(k,v)∈C↔PM F k v:=h.mem k v
theorem MOK.turn (h : MOK F) (g : Ly → Ly) (hp : ∀ l, l ∈ F → (g l).pre = l.pre) (ht : ∀ l, l ∈ F.map g ++ N → Tower l.Ls) (hk : ∀ l, l ∈ F.map g ++ N → ∀ x, x ∈ content l.Ls → x.1 = mT x.2.m ∧ SlOK x.2)
    (hn:((F.map (·.pre))++N.map (·.pre)).Nodup) (hd:∀ l,l∈F.map g++N→∀ x,x∈content l.Ls→x.2.deep=true→∃ l',l'∈F.map g++N∧l'.pre=l.pre++ube 8 x.2.m.s∧l'.r=x.2.link)
    (hu:∀ l,l∈F→∀ x,x∈content l.Ls→x.2.deep=true→∃ y,y∈content (g l).Ls∧y.2.deep=true∧y.2.m=x.2.m)
    (hN:∀ l,l∈N→∃ l',l'∈F.map g++N∧∃ x,x∈content l'.Ls∧x.2.deep=true∧l.pre=l'.pre++ube 8 x.2.m.s)
    (hc:∀ l,l∈F.map g++N→l.pre≠[]→∀ x,x∈content l.Ls→x.2.m.c≠0):MOK (F.map g++N):=by
 have hpre:(F.map g).map (·.pre)=F.map (·.pre):=by
  rw [List.map_map];exact List.map_congr_left hp
 refine ⟨ht,hk,by rw [List.map_append,hpre];exact hn,?_,hd,fun l hl hne=>?_,hc⟩
 ·obtain ⟨a,F',e,h0⟩:=h.root
  refine ⟨g a,F'.map g++N,by rw [e];rfl,?_⟩;rw [hp a (by rw [e];simp),h0]
 ·rcases List.mem_append.1 hl with h1 | h1
  ·obtain ⟨l2,h2,rfl⟩:=List.mem_map.1 h1
   rw [hp l2 h2] at hne ⊢;obtain ⟨l3,h3,x,h4,h5,h6⟩:=h.up l2 h2 hne;obtain ⟨y,h7,h8,h9⟩:=hu l3 h3 x h4 h5;exact ⟨g l3,List.mem_append_left _ (List.mem_map_of_mem h3),y,h7,h8,by rw [hp l3 h3,h9];exact h6⟩
  ·exact hN l h1
theorem MOK.turn1 (h : MOK F) (g : Ly → Ly) (hp : ∀ l, l ∈ F → (g l).pre = l.pre) (ht : ∀ l, l ∈ F.map g → Tower l.Ls) (hk : ∀ l, l ∈ F.map g → ∀ x, x ∈ content l.Ls → x.1 = mT x.2.m ∧ SlOK x.2)
    (hd:∀ l,l∈F.map g→∀ x,x∈content l.Ls→x.2.deep=true→∃ l',l'∈F.map g∧l'.pre=l.pre++ube 8 x.2.m.s∧l'.r=x.2.link)
    (hu:∀ l,l∈F→∀ x,x∈content l.Ls→x.2.deep=true→∃ y,y∈content (g l).Ls∧y.2.deep=true∧y.2.m=x.2.m)
    (hc:∀ l,l∈F.map g→l.pre≠[]→∀ x,x∈content l.Ls→x.2.m.c≠0):MOK (F.map g):=by
 have:=h.turn (N:=[]) g hp (by simpa using ht) (by simpa using hk) (by simpa using h.pre) (by simpa using hd) hu (by simp) (by simpa using hc)
 simpa using this
theorem turnL_mem (hl0:l0∈F):∀ l,l∈turnL F l0 l1↔l=l1∨(l∈F∧l.pre≠l0.pre):=by
 intro l
 unfold turnL
 rw [List.mem_map]
 refine ⟨?_,?_⟩
 ·rintro ⟨a,ha,rfl⟩
  by_cases e:a.pre=l0.pre
  ·rw [if_pos e];exact .inl rfl
  ·rw [if_neg e];exact .inr ⟨ha,e⟩
 ·rintro (rfl | ⟨h1,h2⟩)
  ·exact ⟨l0,hl0,if_pos rfl⟩
  ·exact ⟨l,h1,if_neg h2⟩
theorem MOK.plain1 (h : MOK F) (hl0 : l0 ∈ F) (hp : l1.pre = l0.pre) (hr : l1.r = l0.r) (ht : Tower l1.Ls)
    (hx1:∀ x,x∈content l1.Ls→x∈content l0.Ls∨(x.2.deep=false∧x.1=mT x.2.m∧SlOK x.2∧(l0.pre≠[]→x.2.m.c≠0)))
    (hx2:∀ x,x∈content l0.Ls→x.2.deep=true→x∈content l1.Ls):MOK (turnL F l0 l1):=by
 have hm:=turnL_mem (l1:=l1) hl0
 have hto:∀ l,l∈F→∃ l',l'∈turnL F l0 l1∧l'.pre=l.pre∧l'.r=l.r:=fun l hl=>by
  by_cases e:l.pre=l0.pre
  ·exact ⟨l1,(hm l1).2 (.inl rfl),hp.trans e.symm,by rw [hr,h.uniq hl hl0 e]⟩
  ·exact ⟨l,(hm l).2 (.inr ⟨hl,e⟩),rfl,rfl⟩
 refine h.turn1 _ (fun l hl=>?_) (fun l hl=>?_) (fun l hl=>?_) (fun l hl=>?_) (fun l hl=>?_) (fun l hl=>?_)
 ·split
  ·rename_i e
   exact hp.trans e.symm
  ·rfl
 ·rcases (hm l).1 hl with rfl | ⟨h1,_⟩
  ·exact ht
  ·exact h.tow l h1
 ·intro x hxl
  rcases (hm l).1 hl with rfl | ⟨h1,_⟩
  ·rcases hx1 x hxl with h2 | ⟨_,h2,h3,_⟩
   ·exact h.key l0 hl0 x h2
   ·exact ⟨h2,h3⟩
  ·exact h.key l h1 x hxl
 ·intro x hxl hdp
  rcases (hm l).1 hl with rfl | ⟨h1,_⟩
  ·rcases hx1 x hxl with h2 | ⟨h2,_⟩
   ·obtain ⟨a,a1,a2,a3⟩:=h.down l0 hl0 x h2 hdp
    obtain ⟨b,b1,b2,b3⟩:=hto a a1;exact ⟨b,b1,by rw [b2,a2,hp],by rw [b3,a3]⟩
   ·rw [hdp] at h2
    cases h2
  ·obtain ⟨a,a1,a2,a3⟩:=h.down l h1 x hxl hdp
   obtain ⟨b,b1,b2,b3⟩:=hto a a1;exact ⟨b,b1,by rw [b2,a2],by rw [b3,a3]⟩
 ·intro x hxl hdp
  by_cases e:l.pre=l0.pre
  ·simp only [if_pos e]
   obtain rfl:=h.uniq hl hl0 e;exact ⟨x,hx2 x hxl hdp,hdp,rfl⟩
  ·simp only [if_neg e]
   exact ⟨x,hxl,hdp,rfl⟩
 ·intro hne x hxl
  rcases (hm l).1 hl with rfl | ⟨h1,_⟩
  ·rcases hx1 x hxl with h2 | ⟨_,_,_,h2⟩
   ·exact h.cls l0 hl0 (by rw [← hp];exact hne) x h2
   ·exact h2 (by rw [← hp];exact hne)
  ·exact h.cls l h1 hne x hxl
theorem put_iff (hc:CSort (content l0.Ls)) (he:content l1.Ls=cput (content l0.Ls) (mT s.m) s) (x:Str×Sl):x∈content l1.Ls↔x=(mT s.m,s)∨(x∈content l0.Ls∧x.1≠mT s.m):=by
 obtain ⟨a,b⟩:=x
 rw [he,mem_cput hc]
 by_cases e:mT s.m=a
 ·subst e
  simp
 ·simp [e,Ne.symm e,eq_comm]
theorem MOK.put1 (h : MOK F) (hl0 : l0 ∈ F) (hp : l1.pre = l0.pre) (hr : l1.r = l0.r) (ht : Tower l1.Ls) (hc : content l1.Ls = cput (content l0.Ls) (mT s.m) s) (hs : SlOK s) (hd : s.deep = false)
    (ho:∀ so,M.cget (content l0.Ls) (mT s.m)=some so→so.deep=false) (h0:l0.pre≠[]→s.m.c≠0):MOK (turnL F l0 l1):=by
 have hx:=put_iff (h.srt hl0) hc
 refine h.plain1 hl0 hp hr ht (fun x hxl=>?_) (fun x hxl hdp=>(hx x).2 (.inr ⟨hxl,fun e2=>?_⟩))
 ·rcases (hx x).1 hxl with rfl | ⟨h2,_⟩
  ·exact .inr ⟨hd,rfl,hs,h0⟩
  ·exact .inl h2
 ·have:=ho x.2 ((h.cget hl0).2 (by rw [← e2];exact hxl))
  rw [hdp] at this
  cases this
theorem MOK.del1 {m : Mk} (h : MOK F) (hl0 : l0 ∈ F) (hp : l1.pre = l0.pre) (hr : l1.r = l0.r) (ht : Tower l1.Ls) (hc : content l1.Ls = cdel (content l0.Ls) (mT m))
    (ho:∀ so,M.cget (content l0.Ls) (mT m)=some so→so.deep=false):MOK (turnL F l0 l1):=by
 have hx:∀ x,x∈content l1.Ls↔mT m≠x.1∧x∈content l0.Ls:=fun x=>by
  obtain ⟨a,b⟩:=x;rw [hc,mem_cdel (h.srt hl0)]
 refine h.plain1 hl0 hp hr ht (fun x hxl=>.inl ((hx x).1 hxl).2) (fun x hxl hdp=>(hx x).2 ⟨fun e2=>?_,hxl⟩)
 have:=ho x.2 ((h.cget hl0).2 (by rw [e2];exact hxl))
 rw [hdp] at this
 cases this
theorem PM.at (h:MOK F) (hm:PM F k v):∃ i l s,On F k i l∧M.cget (content l.Ls) (mT (mkAt k i))=some s∧s.deep=false∧keyAt k i=sb s∧v=s.val:=by
 obtain ⟨l,h1,x,h2,h3,h4,h5⟩:=hm
 obtain ⟨j,hj⟩:=h.eights _ l h1 (Nat.le_refl _)
 obtain ⟨hk,hs⟩:=h.key l h1 x h2
 have e1:l.pre=(bl k).take (8*j):=by rw [h4,List.take_append_of_le_length (by omega),List.take_of_length_le (by omega)]
 have e2:keyAt k j=sb x.2:=by
  show (bl k).drop (8*j)=_
  rw [h4,← hj,List.drop_left]
 have hlt:j=0∨8*j < (bl k).length:=by
  rcases Nat.eq_zero_or_pos j with h0 | h0
  ·exact .inl h0
  ·have hne:l.pre≠[]:=fun hh=>by rw [hh] at hj;simp at hj;omega
   have hc0:=h.cls l h1 hne x h2;right;refine Classical.byContradiction fun hh=>hc0 ?_
   have:sb x.2=[]:=by rw [← e2];exact List.drop_eq_nil_iff.2 (by omega)
   have h6:=mk_sb hs h3;rw [this] at h6;rw [← h6];rfl
 refine ⟨j,l,x.2,⟨h1,e1,hlt⟩,(h.cget h1).2 ?_,h3,e2,h5⟩
 rw [show mkAt k j=x.2.m from by show mkOf (keyAt k j)=_;rw [e2];exact mk_sb hs h3,← hk]
 exact h2
theorem On.turn (ho:On F k i l0) (hp:l1.pre=l0.pre):On (turnL F l0 l1) k i l1 :=
 ⟨(turnL_mem (l1:=l1) ho.mem l1).2 (.inl rfl),hp.trans ho.pre,ho.lt⟩
theorem PM.one (h:MOK F) (hm:PM F k v) (ho:On F k i l) (hg:M.cget (content l.Ls) (mT (mkAt k i))=some s) (hd:s.deep=false):keyAt k i=sb s∧v=s.val:=by
 obtain ⟨j,l2,s2,h1,h2,h3,h4,h5⟩:=hm.at h
 rcases Nat.lt_trichotomy j i with hij | rfl | hij
 ·obtain ⟨l3,s3,q1,q2,q3⟩:=ho.chain h j hij
  rw [q1.uniq h h1,h2] at q2;injection q2 with q2;rw [q2,q3] at h3
  cases h3
 ·rw [ho.uniq h h1,h2] at hg
  injection hg with hg;subst hg;exact ⟨h4,h5⟩
 ·obtain ⟨l3,s3,q1,q2,q3⟩:=h1.chain h i hij
  rw [← ho.uniq h q1,hg] at q2;injection q2 with q2;rw [q2,q3] at hd
  cases hd
theorem MCt.put1 (h : MOK F) (hct : MCt F C) (ho : On F k i l0) (hp : l1.pre = l0.pre) (hr : l1.r = l0.r) (ht : Tower l1.Ls) (hs : SlOK s) (hd : s.deep = false) (hsk : keyAt k i = sb s) (hc : content l1.Ls = cput (content l0.Ls) (mT s.m) s)
    (hold:∀ so,M.cget (content l0.Ls) (mT s.m)=some so→so.deep=false∧so.rest=s.rest):MOK (turnL F l0 l1)∧MCt (turnL F l0 l1) (cput C k s.val):=by
 have hmk:s.m=mkAt k i:=by
  rw [← mk_sb hs hd,← hsk]
 have h0:l0.pre≠[]→s.m.c≠0:=fun hne hc0=>by
  rcases ho.lt with hi | hi
  ·exact hne (by rw [ho.pre,hi];rfl)
  ·rw [hmk] at hc0
   have:min (keyAt k i).length 9=0:=hc0;rw [List.length_drop] at this;omega
 have hM:=h.put1 ho.mem hp hr ht hc hs hd (fun so hso=>(hold so hso).1) h0
 refine ⟨hM,cs_put hct.srt k s.val,fun k' v'=>?_⟩
 have hx:=put_iff (h.srt ho.mem) hc
 have hmem:=turnL_mem (l1:=l1) ho.mem
 have ho1:=ho.turn hp
 have hg1:M.cget (content l1.Ls) (mT (mkAt k i))=some s:=(hM.cget ho1.mem).2 ((hx _).2 (.inl (by rw [hmk])))
 rw [mem_cput hct.srt]
 show _↔PM _ k' v'
 by_cases e:k=k'
 ·subst e
  rw [if_pos rfl];refine ⟨fun hv=>?_,fun hpm=>(hpm.one hM ho1 hg1 hd).2⟩;exact ⟨l1,ho1.mem,_,(hM.cget ho1.mem).1 hg1,hd,by rw [← hsk,ho1.pre];exact (List.take_append_drop _ _).symm,hv⟩
 ·rw [if_neg e]
  rw [hct.pm];refine ⟨?_,?_⟩
  ·rintro ⟨l,h1,x,h2,h3,h4,h5⟩
   by_cases el:l.pre=l0.pre
   ·obtain rfl:=h.uniq h1 ho.mem el
    refine ⟨l1,ho1.mem,x,(hx x).2 (.inr ⟨h2,fun e2=>e ?_⟩),h3,by rw [hp];exact h4,h5⟩;have hg:=(h.cget h1).2 (show (mT s.m,x.2)∈_ by rw [← e2];exact h2);have hso:=hold x.2 hg;have hsm:=(h.slot h1 hs.m.b hg).1;refine bl_inj ?_;rw [h4,show sb x.2=sb s by unfold sb;rw [hsm,hso.2],← hsk,ho.pre];exact (List.take_append_drop _ _).symm
   ·exact ⟨l,(hmem l).2 (.inr ⟨h1,el⟩),x,h2,h3,h4,h5⟩
  ·rintro ⟨l,h1,x,h2,h3,h4,h5⟩
   rcases (hmem l).1 h1 with rfl | ⟨h1,_⟩
   ·rcases (hx x).1 h2 with rfl | ⟨h2,_⟩
    ·exact absurd (bl_inj (by rw [h4,← hsk,hp,ho.pre];exact (List.take_append_drop _ _).symm)) e
    ·exact ⟨l0,ho.mem,x,h2,h3,by rw [← hp];exact h4,h5⟩
   ·exact ⟨l,h1,x,h2,h3,h4,h5⟩
theorem MCt.del1 (h : MOK F) (hct : MCt F C) (ho : On F k i l0) (hp : l1.pre = l0.pre) (hr : l1.r = l0.r) (ht : Tower l1.Ls) (hg : M.cget (content l0.Ls) (mT (mkAt k i)) = some s) (hd : s.deep = false) (hsk : keyAt k i = sb s)
    (hc:content l1.Ls=cdel (content l0.Ls) (mT (mkAt k i))):MOK (turnL F l0 l1)∧MCt (turnL F l0 l1) (cdel C k):=by
 have hM:=h.del1 ho.mem hp hr ht hc (fun so hso=>by rw [hg] at hso;injection hso with hso;rw [← hso];exact hd)
 refine ⟨hM,cs_del hct.srt k,fun k' v'=>?_⟩
 have hx:∀ x,x∈content l1.Ls↔mT (mkAt k i)≠x.1∧x∈content l0.Ls:=fun x=>by
  obtain ⟨a,b⟩:=x;rw [hc,mem_cdel (h.srt ho.mem)]
 have hmem:=turnL_mem (l1:=l1) ho.mem
 have ho1:=ho.turn hp
 rw [mem_cdel hct.srt,hct.pm]
 show _↔PM _ k' v'
 refine ⟨?_,?_⟩
 ·rintro ⟨hne,l,h1,x,h2,h3,h4,h5⟩
  by_cases el:l.pre=l0.pre
  ·obtain rfl:=h.uniq h1 ho.mem el
   refine ⟨l1,ho1.mem,x,(hx x).2 ⟨fun e2=>hne ?_,h2⟩,h3,by rw [hp];exact h4,h5⟩;have hg2:=(h.cget h1).2 (show (mT (mkAt k i),x.2)∈_ by rw [e2];exact h2);rw [hg] at hg2;injection hg2 with hg2;refine bl_inj ?_;rw [h4,← hg2,← hsk,ho.pre];exact (List.take_append_drop _ _).symm
  ·exact ⟨l,(hmem l).2 (.inr ⟨h1,el⟩),x,h2,h3,h4,h5⟩
 ·rintro hpm
  obtain ⟨l,h1,x,h2,h3,h4,h5⟩:=hpm
  have hold:PM F k' v':=by
   rcases (hmem l).1 h1 with rfl | ⟨h1,_⟩
   ·exact ⟨l0,ho.mem,x,((hx x).1 h2).2,h3,by rw [← hp];exact h4,h5⟩
   ·exact ⟨l,h1,x,h2,h3,h4,h5⟩
  refine ⟨fun e=>?_,hold⟩;subst e;have hpm:PM (turnL F l0 l1) k v':=⟨l,h1,x,h2,h3,h4,h5⟩;obtain ⟨j,l2,s2,q1,q2,q3,q4,q5⟩:=hpm.at hM;rcases Nat.lt_trichotomy j i with hij | rfl | hij
  ·obtain ⟨l3,s3,r1,r2,r3⟩:=ho1.chain hM j hij
   rw [r1.uniq hM q1,q2] at r2;injection r2 with r2;rw [r2,r3] at q3
   cases q3
  ·obtain rfl:=ho1.uniq hM q1
   exact ((hx _).1 ((hM.cget q1.mem).1 q2)).1 rfl
  ·obtain ⟨l3,s3,r1,r2,r3⟩:=q1.chain hM i hij
   obtain rfl:=ho1.uniq hM r1;exact ((hx _).1 ((hM.cget r1.mem).1 r2)).1 rfl
def relink (F:List Ly) (l0 lp1:Ly) (r:Hd):List Ly:=F.map fun l=>if l.pre=l0.pre then { l with r:=r } else if l.pre=lp1.pre then lp1 else l
theorem relink_ok {lp lp1 : Ly} {sp : Sl} {r : Hd} (h : MOK F) (hl0 : l0 ∈ F) (hlp : lp ∈ F) (hg : M.cget (content lp.Ls) (mT sp.m) = some sp) (hd : sp.deep = true) (he : l0.pre = lp.pre ++ ube 8 sp.m.s)
    (hp:lp1.pre=lp.pre) (hr:lp1.r=lp.r) (ht:Tower lp1.Ls) (hc:content lp1.Ls=cput (content lp.Ls) (mT sp.m) { sp with link:=r }):MOK (relink F l0 lp1 r)∧(MCt F C→MCt (relink F l0 lp1 r) C):=by
 have hin:=(h.cget hlp).1 hg
 obtain ⟨hk,hso⟩:=h.key lp hlp _ hin
 have hne:l0.pre≠lp.pre:=fun e=>by
  have:=congrArg List.length (he.symm.trans e);rw [List.length_append,ube_len] at this;omega
 have hx:∀ x,x∈content lp1.Ls↔x=(mT sp.m,{ sp with link:=r })∨(x∈content lp.Ls∧x.1≠mT sp.m):=put_iff (s:={ sp with link:=r }) (h.srt hlp) hc
 have hold:∀ x,x∈content lp.Ls→x.1=mT sp.m→x.2=sp:=fun x hx e=>by
  have:=(h.cget hlp).2 (show (mT sp.m,x.2)∈_ by rw [← e];exact hx);rw [hg] at this;injection this with this;exact this.symm
 have hm:∀ l,l∈relink F l0 lp1 r↔l={ l0 with r:=r }∨l=lp1∨(l∈F∧l.pre≠l0.pre∧l.pre≠lp.pre):=fun l=>by
  unfold relink;rw [List.mem_map];refine ⟨?_,?_⟩
  ·rintro ⟨a,ha,rfl⟩
   by_cases e:a.pre=l0.pre
   ·rw [if_pos e]
    obtain rfl:=h.uniq ha hl0 e;exact .inl rfl
   ·rw [if_neg e,hp]
    by_cases e2:a.pre=lp.pre
    ·rw [if_pos e2];exact .inr (.inl rfl)
    ·rw [if_neg e2];exact .inr (.inr ⟨ha,e,e2⟩)
  ·rintro (rfl | rfl | ⟨h1,h2,h3⟩)
   ·exact ⟨l0,hl0,if_pos rfl⟩
   ·exact ⟨lp,hlp,by rw [if_neg (Ne.symm hne),hp,if_pos rfl]⟩
   ·exact ⟨l,h1,by rw [if_neg h2,hp,if_neg h3]⟩
 have hto:∀ l,l∈F→l.pre≠l0.pre→∃ l',l'∈relink F l0 lp1 r∧l'.pre=l.pre∧l'.r=l.r:=fun l hl hn=>by
  by_cases e:l.pre=lp.pre
  ·exact ⟨lp1,(hm lp1).2 (.inr (.inl rfl)),hp.trans e.symm,by rw [hr,h.uniq hl hlp e]⟩
  ·exact ⟨l,(hm l).2 (.inr (.inr ⟨hl,hn,e⟩)),rfl,rfl⟩
 have hdown:∀ l,l∈F→∀ x,x∈content l.Ls→x.2.deep=true→(l.pre=lp.pre→x.1≠mT sp.m)→∃ l',l'∈relink F l0 lp1 r∧l'.pre=l.pre++ube 8 x.2.m.s∧l'.r=x.2.link:=fun l hl x hxl hdp hno=>by
  obtain ⟨a,a1,a2,a3⟩:=h.down l hl x hxl hdp
  have hn:a.pre≠l0.pre:=fun e=>by
   have e2:l.pre++ube 8 x.2.m.s=lp.pre++ube 8 sp.m.s:=by rw [← a2,e,he]
   have e3:=List.append_inj' e2 (by rw [ube_len,ube_len]);refine hno e3.1 ?_;obtain ⟨hk2,hs2⟩:=h.key l hl x hxl;rw [hk2]
   have e4:x.2.m.s=sp.m.s:=by
    have:=congrArg be e3.2
    rwa [ube_be_le (by simpa using hs2.m.s),ube_be_le (by simpa using hso.m.s)] at this
   have e5:x.2.m.c=sp.m.c:=by rw [(hs2.dp hdp).1,(hso.dp hd).1]
   cases h1:x.2.m
   cases h2:sp.m;rw [h1,h2] at e4 e5;simp only at e4 e5;rw [e4,e5]
  obtain ⟨b,b1,b2,b3⟩:=hto a a1 hn;exact ⟨b,b1,by rw [b2,a2],by rw [b3,a3]⟩
 have hM:MOK (relink F l0 lp1 r):=by
  refine h.turn1 _ (fun l hl=>?_) (fun l hl=>?_) (fun l hl=>?_) (fun l hl=>?_) (fun l hl=>?_) (fun l hl=>?_)
  ·split
   ·rfl
   ·split
    ·rename_i e;exact e.symm
    ·rfl
  ·rcases (hm l).1 hl with rfl | rfl | ⟨h1,_⟩
   ·exact h.tow l0 hl0
   ·exact ht
   ·exact h.tow l h1
  ·intro x hxl
   rcases (hm l).1 hl with rfl | rfl | ⟨h1,_⟩
   ·exact h.key l0 hl0 x hxl
   ·rcases (hx x).1 hxl with rfl | ⟨h2,_⟩
    ·exact ⟨rfl,hso.m,hso.dp,fun hh=>by simp only at hh;rw [hd] at hh;cases hh⟩
    ·exact h.key lp hlp x h2
   ·exact h.key l h1 x hxl
  ·intro x hxl hdp
   rcases (hm l).1 hl with rfl | rfl | ⟨h1,_,h3⟩
   ·exact hdown l0 hl0 x hxl hdp (fun e=>absurd e hne)
   ·rcases (hx x).1 hxl with rfl | ⟨h2,h3⟩
    ·exact ⟨_,(hm _).2 (.inl rfl),by rw [hp];exact he,rfl⟩
    ·obtain ⟨b,b1,b2,b3⟩:=hdown lp hlp x h2 hdp (fun _=>h3)
     exact ⟨b,b1,by rw [hp];exact b2,b3⟩
   ·exact hdown l h1 x hxl hdp (fun e=>absurd e h3)
  ·intro x hxl hdp
   by_cases e:l.pre=l0.pre
   ·simp only [if_pos e]
    exact ⟨x,hxl,hdp,rfl⟩
   ·simp only [if_neg e]
    by_cases e2:l.pre=lp1.pre
    ·simp only [if_pos e2]
     obtain rfl:=h.uniq hl hlp (e2.trans hp);by_cases e3:x.1=mT sp.m
     ·exact ⟨_,(hx _).2 (.inl rfl),hd,by rw [hold x hxl e3]⟩
     ·exact ⟨x,(hx x).2 (.inr ⟨hxl,e3⟩),hdp,rfl⟩
    ·simp only [if_neg e2]
     exact ⟨x,hxl,hdp,rfl⟩
  ·intro hn x hxl
   rcases (hm l).1 hl with rfl | rfl | ⟨h1,_⟩
   ·exact h.cls l0 hl0 hn x hxl
   ·rcases (hx x).1 hxl with rfl | ⟨h2,_⟩
    ·have:=h.cls lp hlp (by rw [← hp];exact hn) _ hin
     exact this
    ·exact h.cls lp hlp (by rw [← hp];exact hn) x h2
   ·exact h.cls l h1 hn x hxl
 refine ⟨hM,fun hct=>⟨hct.srt,fun k v=>?_⟩⟩
 rw [hct.pm]
 show PM _ k v↔PM _ k v
 refine ⟨?_,?_⟩
 ·rintro ⟨l,h1,x,h2,h3,h4,h5⟩
  by_cases e:l.pre=l0.pre
  ·obtain rfl:=h.uniq h1 hl0 e
   exact ⟨_,(hm _).2 (.inl rfl),x,h2,h3,h4,h5⟩
  ·by_cases e2:l.pre=lp.pre
   ·obtain rfl:=h.uniq h1 hlp e2
    refine ⟨lp1,(hm _).2 (.inr (.inl rfl)),x,(hx x).2 (.inr ⟨h2,fun e3=>?_⟩),h3,by rw [hp];exact h4,h5⟩;rw [hold x h2 e3,hd] at h3
    cases h3
   ·exact ⟨l,(hm _).2 (.inr (.inr ⟨h1,e,e2⟩)),x,h2,h3,h4,h5⟩
 ·rintro ⟨l,h1,x,h2,h3,h4,h5⟩
  rcases (hm l).1 h1 with rfl | rfl | ⟨h1,_⟩
  ·exact ⟨l0,hl0,x,h2,h3,h4,h5⟩
  ·rcases (hx x).1 h2 with rfl | ⟨h2,_⟩
   ·simp only at h3
    rw [hd] at h3
    cases h3
   ·exact ⟨lp,hlp,x,h2,h3,by rw [← hp];exact h4,h5⟩
  ·exact ⟨l,h1,x,h2,h3,h4,h5⟩
end
open Go.Lib
def alk (a b:Byt):Nat:=if _h:8 < a.length∧8 < b.length∧a.take 8=b.take 8 then alk (a.drop 8) (b.drop 8)+1 else 0
termination_by a.length
decreasing_by rw [List.length_drop];omega
theorem alk_step {a b:Byt} (h:8 < a.length∧8 < b.length∧a.take 8=b.take 8):alk a b=alk (a.drop 8) (b.drop 8)+1:=by rw [alk,dif_pos h]
theorem alk_stop {a b:Byt} (h:¬ (8 < a.length∧8 < b.length∧a.take 8=b.take 8)):alk a b=0:=by rw [alk,dif_neg h]
theorem mk_take {a:Byt} (h:8 < a.length):(mkOf a).c=9∧ube 8 (mkOf a).s=a.take 8:=⟨by show min a.length 9=9;omega,ube_mk a (by omega)⟩
theorem mk_eq {a b:Byt} (h:mkOf a=mkOf b):a=b∨(8 < a.length∧8 < b.length∧a.take 8=b.take 8):=by
 have hc:min a.length 9=min b.length 9:=congrArg Mk.c h
 have hs:pad 8 a=pad 8 b:=be_inj (by rw [pad_len,pad_len]) (congrArg Mk.s h)
 rcases Nat.lt_or_ge 8 a.length with h8 | h8
 ·right
  refine ⟨h8,by omega,?_⟩;rw [← pad_take 8 a (by omega),← pad_take 8 b (by omega),hs]
 ·left
  have hl:a.length=b.length:=by omega
  rw [pad_short 8 a h8,pad_short 8 b (by omega)] at hs;exact (List.append_inj hs hl).1
theorem mk_alike {a b:Byt} (h:8 < a.length∧8 < b.length∧a.take 8=b.take 8):mkOf a=mkOf b:=by
 unfold mkOf
 rw [pad_take 8 a (by omega),pad_take 8 b (by omega),h.2.2,show min a.length 9=min b.length 9 by omega]
def lf0:BN Sl:=⟨true,[],[],[],s0,false,(0,0)⟩
def slOf (a:Byt) (v:Str):Sl:=⟨mkOf a,bs (a.drop 8),v,false,(0,0)⟩
def slDp (a:Byt) (h:Hd):Sl:=⟨mkOf a,s0,s0,true,h⟩
theorem slOf_ok (a:Byt) (v:Str):SlOK (slOf a v):=by
 refine ⟨mkOf_ok a,fun h=>(by cases h),fun _=>⟨rfl,?_⟩⟩
 show min a.length 9=9↔bs (a.drop 8)≠s0
 have:bs (a.drop 8)=s0↔a.drop 8=[]:=⟨fun h=>by have:=congrArg bl h;rwa [bl_bs] at this,fun h=>by rw [h];rfl⟩
 rw [Ne,this,List.drop_eq_nil_iff]
 omega
theorem slOf_sb (a:Byt) (v:Str):sb (slOf a v)=a:=by
 show (ube 8 (be (pad 8 a))).take (min (min a.length 9) 8)++bl (bs (a.drop 8))=a
 have:=ube_be (pad 8 a)
 rw [pad_len] at this
 rw [this,bl_bs]
 rcases Nat.lt_or_ge a.length 8 with h | h
 ·rw [pad_short 8 _ (by omega),show min (min a.length 9) 8=a.length by omega,List.take_append_of_le_length (Nat.le_refl _),List.take_of_length_le (Nat.le_refl _),List.drop_eq_nil_of_le (by omega),List.append_nil]
 ·rw [pad_take 8 _ h,show min (min a.length 9) 8=8 by omega,List.take_take]
  exact List.take_append_drop 8 a
theorem slDp_ok {a:Byt} (h:8 < a.length) (g:Hd):SlOK (slDp a g):=⟨mkOf_ok a,fun _=>⟨(mk_take h).1,rfl,rfl⟩,fun h=>(by cases h)⟩
theorem lf0_ok:NodeOK s0 lf0:=⟨List.Pairwise.nil,by simp [lf0],by simp [lf0],fun _=>rfl,fun _=>⟨rfl,rfl⟩,fun h=>(by cases h),fun h=>(by cases h)⟩
theorem lf0_put {n:BN Sl} (h:NodeOK s0 n) (hl:n.leaf=true) (hb:n.bnd=false) (k:Str) (s:Sl):NodeOK s0 (n.put k s)∧(n.put k s).leaf=true∧(n.put k s).bnd=false∧(n.put k s).next=n.next∧(n.put k s).pairs=cput n.pairs k s:=by
 obtain ⟨e1,e2,e3,e4,_⟩:=put_ends n k s
 have hc:n.covers k=true:=by unfold BN.covers;rw [hb];rfl
 exact ⟨h.put hl s (sle_s0 k) hc,e4.trans hl,e2.trans hb,e3,put_pairs h hl⟩
theorem one_tower {h:Hd} {n:BN Sl} (ho:NodeOK s0 n) (hl:n.leaf=true) (hb:n.bnd=false) (hn:n.next=(0,0)):Tower [[(h,n)]]∧content [[(h,n)]]=n.pairs:=by
 refine ⟨⟨fun i R hR=>?_,fun i S R hS hR=>?_,⟨_,rfl⟩⟩,?_⟩
 ·match i,hR with
  | 0,hR =>
   simp at hR;subst hR;refine ⟨⟨ho,hn,?_⟩,fun x hx=>by rw [List.mem_singleton.1 hx];simpa using hl⟩;rw [if_neg (by rw [hb];simp)];exact ⟨rfl,rfl⟩
  | i+1,hR=>simp at hR
 ·simp at hR
 ·show cont [(h,n)]=_
  simp [cont]
def two (a b:Byt) (v w:Str):BN Sl:=(lf0.put (mT (mkOf a)) (slOf a v)).put (mT (mkOf b)) (slOf b w)
def deep1 (a:Byt) (g:Hd):BN Sl:=lf0.put (mT (mkOf a)) (slDp a g)
def bothN (p a b:Byt) (v w:Str):List Hd→List Ly
 | []=>[]
 | [h]=>[⟨p,[[(h,two a b v w)]],h⟩]
 | h::g::hs=>⟨p,[[(h,deep1 a g)]],h⟩::bothN (p++a.take 8) (a.drop 8) (b.drop 8) v w (g::hs)
theorem deep1_ok (a:Byt) (g:Hd) (h:Hd):Tower [[(h,deep1 a g)]]∧content [[(h,deep1 a g)]]=[(mT (mkOf a),slDp a g)]:=by
 obtain ⟨q1,q2,q3,q4,q5⟩:=lf0_put lf0_ok rfl rfl (mT (mkOf a)) (slDp a g)
 obtain ⟨t1,t2⟩:=one_tower (h:=h) q1 q2 q3 q4
 exact ⟨t1,by unfold deep1;rw [t2,q5];rfl⟩
theorem two_ok (a b:Byt) (v w:Str) (h:Hd):Tower [[(h,two a b v w)]]∧content [[(h,two a b v w)]]=cput [(mT (mkOf a),slOf a v)] (mT (mkOf b)) (slOf b w):=by
 obtain ⟨q1,q2,q3,q4,q5⟩:=lf0_put lf0_ok rfl rfl (mT (mkOf a)) (slOf a v)
 obtain ⟨r1,r2,r3,r4,r5⟩:=lf0_put q1 q2 q3 (mT (mkOf b)) (slOf b w)
 obtain ⟨t1,t2⟩:=one_tower (h:=h) r1 r2 r3 (r4.trans q4)
 exact ⟨t1,by unfold two;rw [t2,r5,q5];rfl⟩
theorem two_mem {a b:Byt} {v w:Str} {h:Hd} (hne:mkOf a≠mkOf b) (x:Str×Sl):x∈content [[(h,two a b v w)]]↔x=(mT (mkOf a),slOf a v)∨x=(mT (mkOf b),slOf b w):=by
 rw [(two_ok a b v w h).2]
 have hs:CSort [(mT (mkOf a),slOf a v)]:=List.pairwise_singleton _ _
 obtain ⟨k,s⟩:=x
 rw [mem_cput hs]
 have hne2:mT (mkOf a)≠mT (mkOf b):=fun e=>hne (mT_inj (mkOf_b a) (mkOf_b b) e)
 by_cases e:mT (mkOf b)=k
 ·subst e
  simp [Ne.symm hne2]
 ·simp [e,Ne.symm e]
structure BothOK (p a b:Byt) (v w:Str) (h:Hd) (N:List Ly):Prop where
 tow:∀ l,l∈N→Tower l.Ls
 key:∀ l,l∈N→∀ x,x∈content l.Ls→x.1=mT x.2.m∧SlOK x.2∧x.2.m.c≠0
 nd:(N.map (·.pre)).Nodup
 pre:∀ l,l∈N→∃ t,l.pre=p++t
 hd:∃ l N',N=l::N'∧l.pre=p∧l.r=h∧∀ l',l'∈N'→∃ t,t≠[]∧l'.pre=p++t
 down:∀ l,l∈N→∀ x,x∈content l.Ls→x.2.deep=true→∃ l',l'∈N∧l'.pre=l.pre++ube 8 x.2.m.s∧l'.r=x.2.link
 up:∀ l,l∈N→l.pre≠p→∃ l',l'∈N∧∃ x,x∈content l'.Ls∧x.2.deep=true∧l.pre=l'.pre++ube 8 x.2.m.s
 pm:∀ k u,PM N k u↔(bl k=p++a∧u=v)∨(bl k=p++b∧u=w)
theorem both_ok:∀ (hs:List Hd) (h:Hd) (p a b:Byt) (v w:Str),hs.length=alk a b→a≠b→a≠[]→b≠[]→BothOK p a b v w h (bothN p a b v w (h::hs))
 | [],h,p,a,b,v,w,hl,hab,ha,hb=>by
  have hne:mkOf a≠mkOf b:=fun e=>by
   rcases mk_eq e with e | e
   ·exact hab e
   ·rw [alk_step e] at hl
    simp at hl
  have hm:=two_mem (v:=v) (w:=w) (h:=h) hne;have hc:∀ {c:Byt},c≠[]→(mkOf c).c≠0:=fun {c} hc h0=>hc (List.eq_nil_of_length_eq_zero (by have:min c.length 9=0:=h0;omega))
  refine ⟨fun l hl=>?_,fun l hl x hx=>?_,by simp [bothN],fun l hl=>⟨[],?_⟩,⟨_,[],rfl,rfl,rfl,by simp⟩,fun l hl x hx hd=>?_,fun l hl hp=>?_,fun k u=>?_⟩
  ·rw [List.mem_singleton.1 hl];exact (two_ok a b v w h).1
  ·rw [List.mem_singleton.1 hl] at hx
   rcases (hm x).1 hx with rfl | rfl
   ·exact ⟨rfl,slOf_ok a v,hc ha⟩
   ·exact ⟨rfl,slOf_ok b w,hc hb⟩
  ·rw [List.mem_singleton.1 hl];simp
  ·rw [List.mem_singleton.1 hl] at hx
   rcases (hm x).1 hx with rfl | rfl <;> cases hd
  ·rw [List.mem_singleton.1 hl] at hp
   exact absurd rfl hp
  ·unfold PM
   refine ⟨?_,?_⟩
   ·rintro ⟨l,hl,x,hx,_,h4,h5⟩
    rw [List.mem_singleton.1 hl] at hx h4;rcases (hm x).1 hx with rfl | rfl
    ·rw [slOf_sb] at h4;exact .inl ⟨h4,h5⟩
    ·rw [slOf_sb] at h4;exact .inr ⟨h4,h5⟩
   ·rintro (⟨h4,h5⟩ | ⟨h4,h5⟩)
    ·exact ⟨_,List.mem_singleton.2 rfl,_,(hm _).2 (.inl rfl),rfl,by rw [slOf_sb];exact h4,h5⟩
    ·exact ⟨_,List.mem_singleton.2 rfl,_,(hm _).2 (.inr rfl),rfl,by rw [slOf_sb];exact h4,h5⟩
 | g::hs,h,p,a,b,v,w,hl,hab,ha,hb=>by
  have hst:8 < a.length∧8 < b.length∧a.take 8=b.take 8:=Classical.byContradiction fun hn=>by
   rw [alk_stop hn] at hl;simp at hl
  have ha8:a.drop 8≠[]:=fun e=>by have:=List.drop_eq_nil_iff.1 e;omega
  have hb8:b.drop 8≠[]:=fun e=>by have:=List.drop_eq_nil_iff.1 e;omega
  have ih:=both_ok hs g (p++a.take 8) (a.drop 8) (b.drop 8) v w (by rw [alk_step hst] at hl;simpa using hl) (fun e=>hab (by rw [← List.take_append_drop 8 a,hst.2.2,e,List.take_append_drop])) ha8 hb8;have hu:=mk_take hst.1;have hd1:=deep1_ok a g h;have hx1:∀ x,x∈content [[(h,deep1 a g)]]↔x=(mT (mkOf a),slDp a g):=fun x=>by rw [hd1.2,List.mem_singleton]
  have hlt8:(a.take 8).length=8:=by rw [List.length_take];omega
  show BothOK p a b v w h (⟨p,[[(h,deep1 a g)]],h⟩::bothN (p++a.take 8) (a.drop 8) (b.drop 8) v w (g::hs))
  obtain ⟨l1,N1,e1,e2,e3,_⟩:=ih.hd;have hl1:l1∈bothN (p++a.take 8) (a.drop 8) (b.drop 8) v w (g::hs):=by rw [e1];simp
  have hpre:∀ l,l∈bothN (p++a.take 8) (a.drop 8) (b.drop 8) v w (g::hs)→∃ t,t≠[]∧l.pre=p++t:=fun l hl=>by
   obtain ⟨t,ht⟩:=ih.pre l hl;refine ⟨a.take 8++t,fun e=>?_,by rw [ht,List.append_assoc]⟩;have:=congrArg List.length e;rw [List.length_append,hlt8,List.length_nil] at this;omega
  refine ⟨fun l hl=>?_,fun l hl x hx=>?_,?_,fun l hl=>?_,⟨_,_,rfl,rfl,rfl,hpre⟩,fun l hl x hx hd=>?_,fun l hl hp=>?_,fun k u=>?_⟩
  ·rcases List.mem_cons.1 hl with rfl | hl
   ·exact hd1.1
   ·exact ih.tow l hl
  ·rcases List.mem_cons.1 hl with rfl | hl
   ·rw [(hx1 x).1 hx]
    exact ⟨rfl,slDp_ok hst.1 g,by show (mkOf a).c≠0;rw [hu.1];decide⟩
   ·exact ih.key l hl x hx
  ·rw [List.map_cons,List.nodup_cons]
   refine ⟨fun hh=>?_,ih.nd⟩;obtain ⟨l,hl,e⟩:=List.mem_map.1 hh;obtain ⟨t,ht,e2⟩:=hpre l hl;rw [e2] at e;have:=congrArg List.length e;rw [List.length_append] at this;exact ht (List.eq_nil_of_length_eq_zero (by simp at this ⊢;omega))
  ·rcases List.mem_cons.1 hl with rfl | hl
   ·exact ⟨[],by simp⟩
   ·obtain ⟨t,_,e⟩:=hpre l hl
    exact ⟨t,e⟩
  ·rcases List.mem_cons.1 hl with rfl | hl
   ·rw [(hx1 x).1 hx]
    refine ⟨l1,List.mem_cons_of_mem _ hl1,?_,e3⟩;rw [e2]
    show _=p++ube 8 (mkOf a).s
    rw [hu.2]
   ·obtain ⟨l',h1,h2⟩:=ih.down l hl x hx hd
    exact ⟨l',List.mem_cons_of_mem _ h1,h2⟩
  ·rcases List.mem_cons.1 hl with rfl | hl
   ·exact absurd rfl hp
   ·by_cases e:l.pre=p++a.take 8
    ·refine ⟨_,List.mem_cons_self ..,_,(hx1 _).2 rfl,rfl,?_⟩
     rw [e]
     show _=p++ube 8 (mkOf a).s
     rw [hu.2]
    ·obtain ⟨l',h1,h2⟩:=ih.up l hl e
     exact ⟨l',List.mem_cons_of_mem _ h1,h2⟩
  ·have e4:p++a.take 8++a.drop 8=p++a:=by rw [List.append_assoc,List.take_append_drop]
   have e5:p++a.take 8++b.drop 8=p++b:=by rw [List.append_assoc,hst.2.2,List.take_append_drop]
   have:=ih.pm k u;rw [e4,e5] at this;rw [← this];refine ⟨?_,?_⟩
   ·rintro ⟨l,hl,x,hx,h3,h4⟩
    rcases List.mem_cons.1 hl with rfl | hl
    ·rw [(hx1 x).1 hx] at h3
     cases h3
    ·exact ⟨l,hl,x,hx,h3,h4⟩
   ·rintro ⟨l,hl,h3⟩
    exact ⟨l,List.mem_cons_of_mem _ hl,h3⟩
section
variable {F:List Ly} {C:Cont Str} {k v:Str} {i:Nat} {l0 l1:Ly} {so:Sl} {h0:Hd} {hs:List Hd}
theorem no_layer (h:MOK F) (ho:On F k i l0) (hg:M.cget (content l0.Ls) (mT (mkAt k i))=some so) (hd:so.deep=false) (h9:so.m.c=9) {l:Ly} (hl:l∈F) (t:Byt):l.pre≠l0.pre++ube 8 so.m.s++t:=by
 intro e
 obtain ⟨hm,hs⟩:=h.slot ho.mem (mkOf_b _) hg
 obtain ⟨j,hj⟩:=h.eights _ l hl (Nat.le_refl _)
 have hlen0:l0.pre.length=8*i:=by
  rw [ho.pre,List.length_take];rcases ho.lt with hi | hi
  ·subst hi;simp
  ·omega
 have hlen:l.pre.length=8*i+8+t.length:=by rw [e,List.length_append,List.length_append,ube_len,hlen0]
 have hon:On F (bs (l.pre++[0])) j l:=⟨hl,by rw [bl_bs,← hj,List.take_left],.inr (by rw [bl_bs,List.length_append,← hj];simp)⟩
 obtain ⟨l',s',q1,q2,q3⟩:=hon.chain h i (by omega)
 have ep:l'.pre=l0.pre:=by
  rw [q1.pre,bl_bs,e,List.append_assoc,List.append_assoc,List.take_append_of_le_length (by omega),List.take_of_length_le (by omega)]
 obtain rfl:=h.uniq q1.mem ho.mem ep
 have em:mkAt (bs (l.pre++[0])) i=mkAt k i:=by
  have e1:keyAt (bs (l.pre++[0])) i=ube 8 so.m.s++(t++[0]):=by
   show (bl (bs (l.pre++[0]))).drop (8*i)=_
   rw [bl_bs,e,← hlen0,List.append_assoc,List.append_assoc,List.drop_left]
  show mkOf (keyAt (bs (l.pre++[0])) i)=_
  rw [e1];refine Eq.trans ?_ hm
  have hp:pad 8 (ube 8 so.m.s++(t++[0]))=ube 8 so.m.s:=by
   rw [pad_take 8 _ (by rw [List.length_append,ube_len];omega),List.take_append_of_le_length (by rw [ube_len];exact Nat.le_refl _),List.take_of_length_le (by rw [ube_len];exact Nat.le_refl _)]
  have hc:min (ube 8 so.m.s++(t++[0])).length 9=so.m.c:=by
   rw [h9,List.length_append,ube_len,List.length_append];simp;omega
  unfold mkOf;rw [hp,ube_be_le (by simpa using hs.m.s),hc]
 rw [em,hg] at q2
 injection q2 with q2
 rw [q2,q3] at hd
 cases hd
theorem clash (h:MOK F) (ho:On F k i l0) (hg:M.cget (content l0.Ls) (mT (mkAt k i))=some so) (hd:so.deep=false) (hne:bl so.rest≠keyAt k (i+1)):so.m=mkAt k i∧so.m.c=9∧bl so.rest≠[]∧keyAt k (i+1)≠[]∧ube 8 so.m.s=(keyAt k i).take 8∧sb so=ube 8 so.m.s++bl so.rest:=by
 obtain ⟨hm,hs⟩:=h.slot ho.mem (mkOf_b _) hg
 have e2:keyAt k (i+1)=(keyAt k i).drop 8:=by
  show (bl k).drop (8*(i+1))=((bl k).drop (8*i)).drop 8
  rw [List.drop_drop];rfl
 have hcl:so.m.c=min (keyAt k i).length 9:=by rw [hm];rfl
 have h9:so.m.c=9:=Classical.byContradiction fun hn=>by
  have hr:so.rest=s0:=Classical.byContradiction fun hr=>hn ((hs.pl hd).2.2 hr)
  refine hne ?_;rw [hr,e2,List.drop_eq_nil_of_le (by omega)];rfl
 have hlen:9≤(keyAt k i).length:=by omega
 refine ⟨hm,h9,fun e=>(hs.pl hd).2.1 h9 (bl_inj e),fun e=>?_,by rw [hm];exact ube_mk _ (by omega),?_⟩
 ·rw [e2] at e
  have:=List.drop_eq_nil_iff.1 e;omega
 ·unfold sb
  rw [h9,List.take_of_length_le (by rw [ube_len];decide)]
theorem deepen (h : MOK F) (hct : MCt F C) (ho : On F k i l0) (hg : M.cget (content l0.Ls) (mT (mkAt k i)) = some so) (hd : so.deep = false) (hne : bl so.rest ≠ keyAt k (i + 1)) (hl : hs.length = alk (bl so.rest) (keyAt k (i + 1)))
    (hp:l1.pre=l0.pre) (hr:l1.r=l0.r) (ht:Tower l1.Ls) (hc:content l1.Ls=cput (content l0.Ls) (mT so.m) ⟨so.m,s0,s0,true,h0⟩) :
    MOK (turnL F l0 l1++bothN (l0.pre++ube 8 so.m.s) (bl so.rest) (keyAt k (i+1)) so.val v (h0::hs))∧MCt (turnL F l0 l1++bothN (l0.pre++ube 8 so.m.s) (bl so.rest) (keyAt k (i+1)) so.val v (h0::hs)) (cput C k v):=by
 obtain ⟨c1,c2,c3,c4,c5,c6⟩:=clash h ho hg hd hne
 obtain ⟨hm,hsok⟩:=h.slot ho.mem (mkOf_b _) hg
 have hb:=both_ok hs h0 (l0.pre++ube 8 so.m.s) (bl so.rest) (keyAt k (i+1)) so.val v hl hne c3 c4
 obtain ⟨N,hN⟩:∃ N,N=bothN (l0.pre++ube 8 so.m.s) (bl so.rest) (keyAt k (i+1)) so.val v (h0::hs):=⟨_,rfl⟩
 rw [← hN] at hb ⊢
 have hin:=(h.cget ho.mem).1 hg
 have hx:∀ x,x∈content l1.Ls↔x=(mT so.m,⟨so.m,s0,s0,true,h0⟩)∨(x∈content l0.Ls∧x.1≠mT so.m):=put_iff (s:=⟨so.m,s0,s0,true,h0⟩) (h.srt ho.mem) hc
 have hold:∀ x,x∈content l0.Ls→x.1=mT so.m→x.2=so:=fun x hx e=>by
  have e2:mT (mkAt k i)=x.1:=by rw [e,hm]
  have:=(h.cget ho.mem).2 (show (mT (mkAt k i),x.2)∈_ by rw [e2];exact hx);rw [hg] at this;injection this with this;exact this.symm
 have hmem:=turnL_mem (l1:=l1) ho.mem
 have hto:∀ l,l∈F→∃ l',l'∈turnL F l0 l1++N∧l'.pre=l.pre∧l'.r=l.r:=fun l hl=>by
  by_cases e:l.pre=l0.pre
  ·exact ⟨l1,List.mem_append_left _ ((hmem l1).2 (.inl rfl)),hp.trans e.symm,by rw [hr,h.uniq hl ho.mem e]⟩
  ·exact ⟨l,List.mem_append_left _ ((hmem l).2 (.inr ⟨hl,e⟩)),rfl,rfl⟩
 have hM:MOK (turnL F l0 l1++N):=by
  refine h.turn _ (fun l hl=>?_) (fun l hl=>?_) (fun l hl=>?_) ?_ (fun l hl=>?_) (fun l hl=>?_) (fun l hl=>?_) (fun l hl=>?_)
  ·split
   ·rename_i e
    exact hp.trans e.symm
   ·rfl
  ·rcases List.mem_append.1 hl with hl | hl
   ·rcases (hmem l).1 hl with rfl | ⟨h1,_⟩
    ·exact ht
    ·exact h.tow l h1
   ·exact hb.tow l hl
  ·intro x hxl
   rcases List.mem_append.1 hl with hl | hl
   ·rcases (hmem l).1 hl with rfl | ⟨h1,_⟩
    ·rcases (hx x).1 hxl with rfl | ⟨h2,_⟩
     ·exact ⟨rfl,hsok.m,fun _=>⟨c2,rfl,rfl⟩,fun hh=>by cases hh⟩
     ·exact h.key l0 ho.mem x h2
    ·exact h.key l h1 x hxl
   ·obtain ⟨q1,q2,_⟩:=hb.key l hl x hxl
    exact ⟨q1,q2⟩
  ·refine List.nodup_append.2 ⟨h.pre,hb.nd,fun a ha b hb' e=>?_⟩
   obtain ⟨l,hl,rfl⟩:=List.mem_map.1 ha;obtain ⟨l',hl',rfl⟩:=List.mem_map.1 hb';obtain ⟨t,ht⟩:=hb.pre l' hl';exact no_layer h ho hg hd c2 hl t (e.trans ht)
  ·intro x hxl hdp
   rcases List.mem_append.1 hl with hl | hl
   ·rcases (hmem l).1 hl with rfl | ⟨h1,_⟩
    ·rcases (hx x).1 hxl with rfl | ⟨h2,_⟩
     ·obtain ⟨a,N',e1,e2,e3,_⟩:=hb.hd
      exact ⟨a,List.mem_append_right _ (by rw [e1];simp),by rw [e2,hp],e3⟩
     ·obtain ⟨a,a1,a2,a3⟩:=h.down l0 ho.mem x h2 hdp
      obtain ⟨b,b1,b2,b3⟩:=hto a a1;exact ⟨b,b1,by rw [b2,a2,hp],by rw [b3,a3]⟩
    ·obtain ⟨a,a1,a2,a3⟩:=h.down l h1 x hxl hdp
     obtain ⟨b,b1,b2,b3⟩:=hto a a1;exact ⟨b,b1,by rw [b2,a2],by rw [b3,a3]⟩
   ·obtain ⟨a,a1,a2⟩:=hb.down l hl x hxl hdp
    exact ⟨a,List.mem_append_right _ a1,a2⟩
  ·intro x hxl hdp
   by_cases e:l.pre=l0.pre
   ·simp only [if_pos e]
    obtain rfl:=h.uniq hl ho.mem e;refine ⟨x,(hx x).2 (.inr ⟨hxl,fun e2=>?_⟩),hdp,rfl⟩;rw [hold x hxl e2,hd] at hdp
    cases hdp
   ·simp only [if_neg e]
    exact ⟨x,hxl,hdp,rfl⟩
  ·by_cases e:l.pre=l0.pre++ube 8 so.m.s
   ·exact ⟨l1,List.mem_append_left _ ((hmem l1).2 (.inl rfl)),_,(hx _).2 (.inl rfl),rfl,by rw [hp];exact e⟩
   ·obtain ⟨a,a1,a2⟩:=hb.up l hl e
    exact ⟨a,List.mem_append_right _ a1,a2⟩
  ·intro hn x hxl
   rcases List.mem_append.1 hl with hl | hl
   ·rcases (hmem l).1 hl with rfl | ⟨h1,_⟩
    ·rcases (hx x).1 hxl with rfl | ⟨h2,_⟩
     ·show so.m.c≠0
      rw [c2];decide
     ·exact h.cls l0 ho.mem (by rw [← hp];exact hn) x h2
    ·exact h.cls l h1 hn x hxl
   ·exact (hb.key l hl x hxl).2.2
 refine ⟨hM,cs_put hct.srt k v,fun k' v'=>?_⟩
 have hk0:M.cget C k=none:=by rw [hct.plain h ho hg hd,if_neg hne]
 have hkN:bl k=l0.pre++ube 8 so.m.s++keyAt k (i+1):=by
  have e2:keyAt k (i+1)=(keyAt k i).drop 8:=by
   show (bl k).drop (8*(i+1))=((bl k).drop (8*i)).drop 8
   rw [List.drop_drop];rfl
  rw [c5,e2,List.append_assoc,List.take_append_drop,ho.pre];exact (List.take_append_drop _ _).symm
 have hpm:PM (turnL F l0 l1++N) k' v'↔PM F k' v'∨(k'=k∧v'=v):=by
  refine ⟨?_,?_⟩
  ·rintro ⟨l,hl,x,hxl,h3,h4,h5⟩
   rcases List.mem_append.1 hl with hl | hl
   ·rcases (hmem l).1 hl with rfl | ⟨h1,_⟩
    ·rcases (hx x).1 hxl with rfl | ⟨h2,_⟩
     ·cases h3
     ·exact .inl ⟨l0,ho.mem,x,h2,h3,by rw [← hp];exact h4,h5⟩
    ·exact .inl ⟨l,h1,x,hxl,h3,h4,h5⟩
   ·rcases (hb.pm k' v').1 ⟨l,hl,x,hxl,h3,h4,h5⟩ with ⟨e1,e2⟩ | ⟨e1,e2⟩
    ·exact .inl ⟨l0,ho.mem,_,hin,hd,by rw [e1,c6,List.append_assoc],e2⟩
    ·exact .inr ⟨bl_inj (e1.trans hkN.symm),e2⟩
  ·rintro (⟨l,hl,x,hxl,h3,h4,h5⟩ | ⟨rfl,rfl⟩)
   ·by_cases e:l.pre=l0.pre
    ·obtain rfl:=h.uniq hl ho.mem e
     by_cases e2:x.1=mT so.m
     ·obtain ⟨l2,h2,h6⟩:=(hb.pm k' v').2 (.inl ⟨by rw [h4,hold x hxl e2,c6,List.append_assoc],by rw [h5,hold x hxl e2]⟩)
      exact ⟨l2,List.mem_append_right _ h2,h6⟩
     ·exact ⟨l1,List.mem_append_left _ ((hmem l1).2 (.inl rfl)),x,(hx x).2 (.inr ⟨hxl,e2⟩),h3,by rw [hp];exact h4,h5⟩
    ·exact ⟨l,List.mem_append_left _ ((hmem l).2 (.inr ⟨hl,e⟩)),x,hxl,h3,h4,h5⟩
   ·obtain ⟨l2,h2,h6⟩:=(hb.pm k' v').2 (.inr ⟨hkN,rfl⟩)
    exact ⟨l2,List.mem_append_right _ h2,h6⟩
 rw [mem_cput hct.srt]
 show _↔PM _ k' v'
 rw [hpm,← hct.pm]
 by_cases e:k=k'
 ·subst e
  rw [if_pos rfl];refine ⟨fun hv=>.inr ⟨rfl,hv⟩,?_⟩;rintro (hv | ⟨_,hv⟩)
  ·exact absurd hv ((cget_none_iff hct.srt).1 hk0 v')
  ·exact hv
 ·rw [if_neg e]
  refine ⟨.inl,?_⟩;rintro (hv | ⟨hv,_⟩)
  ·exact hv
  ·exact absurd hv.symm e
end
end Go.Proofs.YtbdealmkmpnpoaaGreat.M
namespace Go.Proofs.YtbdealmkmpnpoaaGreat
open Go.RowKit
def obk {α:Type} (a:Option Addr) (L:List α):List Nat:=match L,a with
 | [],_=>[]
 | _::_,none=>[]
 | _::_,some x=>[x.block]
section
variable {α:Type} {w w':World} {k c base:Nat} {f:α→List Value} {a:Option Addr} {L:List α} {S:List Nat}
theorem obk_lt (h:At w k f a c L):∀ b,b∈obk a L→b < w.heap.size:=by
 intro b hb
 cases L with
 | nil=>simp [obk] at hb
 | cons x L =>
  cases a with
  | none=>simp [obk] at hb
  | some y =>
   simp [obk] at hb;subst hb;obtain ⟨b',o',e,h1,_⟩:=h.some (by simp);injection e with e;rw [e];exact h1
theorem obk_fresh (hf:Fresh base a):∀ b,b∈obk a L→base≤b:=by
 intro b hb
 cases L with
 | nil=>simp [obk] at hb
 | cons x L =>
  cases a with
  | none=>simp [obk] at hb
  | some y =>
   simp [obk] at hb;subst hb;exact hf _ rfl
theorem At.updO (h:At w k f a c L) (hu:Upd S w w') (hS:∀ b,b∈obk a L→b∉S):At w' k f a c L:=by
 obtain ⟨h1,h2,h3⟩:=h
 rcases h3 with ⟨rfl,h3⟩ | ⟨b,o,rfl,h4,h5⟩
 ·exact ⟨h1,h2,.inl ⟨rfl,h3⟩⟩
 ·refine ⟨h1,h2,.inr ⟨b,o,rfl,fun hn=>Nat.lt_of_lt_of_le (h4 hn) hu.size,fun i x hx j y hy=>?_⟩⟩
  have hn:L≠[]:=by intro e;rw [e] at hx;simp at hx
  obtain ⟨z,L',rfl⟩:=List.exists_cons_of_ne_nil hn;have hr:=hS b (by simp [obk]);rw [World.cell?_of_block (hu.block b (h4 hn) hr)];exact h5 i x hx j y hy
end
def obN (n:BN) (qka qva qha:Option Addr):List Nat:=obk qka n.keys++(obk qva n.vals++obk qha n.kids)
def InC (w:World) (B:List Nat) (ic:List Value) (n:BN):Prop:=∃ qka qva qha qkc qvc qhc,ic=[.bool n.leaf,.slice qka n.keys.length qkc,.slice qva n.vals.length qvc,.slice qha n.kids.length qhc,.string n.high,.bool n.bnd,.int .i64 n.next.1,.int .u64 n.next.2]∧NodeAt w n qka qva qha qkc qvc qhc∧B=obN n qka qva qha
section
variable {w w':World} {S B:List Nat} {ic:List Value} {n:BN} {key:Str} {lo:Str} {h:Hd}
theorem InC.len (h:InC w B ic n):ic.length=8:=by
 obtain ⟨qka,qva,qha,qkc,qvc,qhc,rfl,_⟩:=h
 rfl
theorem InC.lt (h:InC w B ic n):∀ b,b∈B→b < w.heap.size:=by
 obtain ⟨qka,qva,qha,qkc,qvc,qhc,rfl,⟨h1,h2,h3⟩,rfl⟩:=h
 intro b hb
 unfold obN at hb
 simp only [List.mem_append] at hb
 rcases hb with hb | hb | hb
 ·exact obk_lt h1 b hb
 ·exact obk_lt h2 b hb
 ·exact obk_lt h3 b hb
theorem InC.upd (h:InC w B ic n) (hu:Upd S w w') (hS:∀ b,b∈B→b∉S):InC w' B ic n:=by
 obtain ⟨qka,qva,qha,qkc,qvc,qhc,rfl,⟨h1,h2,h3⟩,rfl⟩:=h
 refine ⟨qka,qva,qha,qkc,qvc,qhc,rfl,⟨h1.updO hu fun b hb=>hS b ?_,h2.updO hu fun b hb=>hS b ?_,h3.updO hu fun b hb=>hS b ?_⟩,rfl⟩ <;> unfold obN <;> simp [hb]
theorem InC.below (h:InC w B ic n) (hb:Below w.heap.size w w'):InC w' B ic n:=h.upd (Upd.of_below (S:=[]) hb) (by simp)
theorem InC.one (h:InC w B ic n):∀ v,v∈ic→v.oneCell'=true:=by
 obtain ⟨qka,qva,qha,qkc,qvc,qhc,rfl,_⟩:=h
 intro v hv
 simp only [List.mem_cons,List.not_mem_nil,or_false] at hv
 rcases hv with rfl | rfl | rfl | rfl | rfl | rfl | rfl | rfl <;> rfl
theorem InC.cells (h:InC w B ic n):∃ ka kc va vc ha hc,ic=[.bool n.leaf,.slice ka n.keys.length kc,.slice va n.vals.length vc,.slice ha n.kids.length hc,.string n.high,.bool n.bnd,.int .i64 n.next.1,.int .u64 n.next.2]∧At w 1 scell ka kc n.keys∧At w 2 hcel ha hc n.kids:=by
 obtain ⟨qka,qva,qha,qkc,qvc,qhc,rfl,⟨h1,h2,h3⟩,rfl⟩:=h
 exact ⟨qka,qkc,qva,qvc,qha,qhc,rfl,h1,h3⟩
theorem InC.covers (h:InC w B ic n):Calls Tryz.prog 126 #[.agg ic.toArray,.string key] w fun e w'=>e=.returned (.bool (n.covers key))∧Below w.heap.size w w':=by
 obtain ⟨qka,qva,qha,qkc,qvc,qhc,rfl,_⟩:=h
 exact nCovers_any n.leaf qka n.keys.length qkc qva n.vals.length qvc qha n.kids.length qhc n.high n.bnd n.next.1 n.next.2 key w
theorem InC.full (h:InC w B ic n):Calls Tryz.prog 79 #[.agg ic.toArray] w fun e w'=>e=.returned (.bool (decide (4 < n.keys.length)))∧Below w.heap.size w w':=by
 obtain ⟨qka,qva,qha,qkc,qvc,qhc,rfl,_⟩:=h
 have:=nFull_any n.leaf qka n.keys.length qkc qva n.vals.length qvc qha n.kids.length qhc n.high n.bnd n.next.1 n.next.2 w
 exact this
theorem InC.right (h:InC w B ic n) (ho:NodeOK lo n) (hsm:n.keys.length≤1000):Calls Tryz.prog 133 #[.agg ic.toArray] w fun e w'=>e=.returned (.bool true)∧Below w.heap.size w w':=by
 obtain ⟨qka,qva,qha,qkc,qvc,qhc,rfl,hn,_⟩:=h
 exact nRight_ok n qka qva qha qkc qvc qhc w ho hn hsm
theorem InC.kid (h : InC w B ic n) {g : Hd} (ho : NodeOK lo n) (hsm : n.keys.length ≤ 1000) (hl : n.leaf = false) (hc : n.covers key = true) (hh : n.kids[cutE key n.keys]? = some g) :
    Calls Tryz.prog 96 #[.agg ic.toArray,.string key] w fun e w'=>e=.returned (.tuple #[.agg #[.int .i64 g.1,.int .u64 g.2],.bool true])∧Below w.heap.size w w':=by
 obtain ⟨qka,qva,qha,qkc,qvc,qhc,rfl,hn,_⟩:=h
 exact nKid_ok n qka qva qha qkc qvc qhc key g w ho hn hsm hl hc hh
theorem obN_fresh {base:Nat} {n:BN} {qka qva qha:Option Addr} (hf:FreshN base qka qva qha):∀ b,b∈obN n qka qva qha→base≤b:=by
 intro b hb
 unfold obN at hb
 simp only [List.mem_append] at hb
 rcases hb with hb | hb | hb
 ·exact obk_fresh hf.1 b hb
 ·exact obk_fresh hf.2.1 b hb
 ·exact obk_fresh hf.2.2 b hb
theorem InC.add (h : InC w B ic n) {g : Hd} (ho : NodeOK lo n) (hsm : n.keys.length ≤ 1000) (hl : n.leaf = false) (hc : n.covers key = true) (hno : hasK key n.keys = false) :
    Calls Tryz.prog 116 #[.agg ic.toArray,.string key,.agg #[.int .i64 g.1,.int .u64 g.2]] w fun e w'=>∃ ic2 B2,e=.returned (.agg ic2.toArray)∧InC w' B2 ic2 (n.add key g)∧(∀ b,b∈B2→w.heap.size≤b)∧Below w.heap.size w w':=by
 obtain ⟨qka,qva,qha,qkc,qvc,qhc,rfl,hn,_⟩:=h
 refine (nAdd_ok n qka qva qha qkc qvc qhc key g w ho hn hsm hl hc hno).mono ?_
 rintro e w' ⟨qka2,qva2,qha2,qkc2,qvc2,qhc2,rfl,hown,hb⟩
 exact ⟨_,_,rfl,⟨qka2,qva2,qha2,qkc2,qvc2,qhc2,rfl,hown.at,rfl⟩,obN_fresh hown.fresh,hb⟩
theorem InC.split (h : InC w B ic n) {g : Hd} (ho : NodeOK lo n) (hsm : n.keys.length ≤ 1000) (hl : n.leaf = false) (h3 : 3 ≤ n.keys.length) :
    Calls Tryz.prog 124 #[.agg ic.toArray,.agg #[.int .i64 g.1,.int .u64 g.2]] w fun e w'=>∃ ic2 B2 ic3 B3,e=.returned (.tuple #[.agg ic2.toArray,.agg ic3.toArray,.string n.sep])∧InC w' B2 ic2 (n.left g)∧InC w' B3 ic3 n.rightHalf∧(∀ b,b∈B2→w.heap.size≤b)∧(∀ b,b∈B3→w.heap.size≤b)∧Below w.heap.size w w':=by
 obtain ⟨qka,qva,qha,qkc,qvc,qhc,rfl,hn,_⟩:=h
 refine (nSplit_inner n qka qva qha qkc qvc qhc g w ho hn hsm hl h3).mono ?_
 rintro e w' ⟨qka2,qva2,qha2,qkc2,qvc2,qhc2,qka3,qva3,qha3,qkc3,qvc3,qhc3,n2,n3,rfl,rfl,rfl,a2,a3,f2,f3,hb⟩
 exact ⟨_,_,_,_,rfl,⟨qka2,qva2,qha2,qkc2,qvc2,qhc2,rfl,a2,rfl⟩,⟨qka3,qva3,qha3,qkc3,qvc3,qhc3,rfl,a3,rfl⟩,obN_fresh f2,obN_fresh f3,hb⟩
end
end Go.Proofs.YtbdealmkmpnpoaaGreat
namespace Go.Proofs.YtbdealmkmpnpoaaGreat.M
open Go.RowKit
def down (b:BN Sl):Go.Proofs.YtbdealmkmpnpoaaGreat.BN:=⟨false,b.keys,[],b.kids,b.high,b.bnd,b.next⟩
section
variable {b:BN Sl} {lo k:Str} {g:Hd}
theorem down_ok (h:NodeOK lo b) (hl:b.leaf=false):Go.Proofs.YtbdealmkmpnpoaaGreat.NodeOK lo (down b) :=
 ⟨h.rise,h.low,h.cov,h.hi0,fun hh=>(by cases hh),fun _=>⟨rfl,(h.inn hl).2⟩,h.room⟩
theorem down_left (hl:b.leaf=false):(down b).left g=down (b.left g):=by
 unfold down Go.Proofs.YtbdealmkmpnpoaaGreat.BN.left BN.left
 simp only [hl]
 rfl
theorem down_right (hl:b.leaf=false):(down b).rightHalf=down b.rightHalf:=by
 unfold down Go.Proofs.YtbdealmkmpnpoaaGreat.BN.rightHalf BN.rightHalf
 simp only [hl]
 rfl
end
end Go.Proofs.YtbdealmkmpnpoaaGreat.M
namespace Go.Proofs.YtbdealmkmpnpoaaGreat
open Go.RowKit
def PoolIs (w:World) (p g f:Nat) (gens:List Int) (free:List Bool):Prop :=
 gens.length=free.length∧free.length≤4096∧p≠g∧p≠f∧g≠f ∧
 w.heap[p]?=some (.cells #[.slice (some ⟨g,0,none⟩) free.length free.length,.slice (some ⟨f,0,none⟩) free.length free.length,.int .i64 ((free.count true:Nat):Int)] 87) ∧
 w.heap[g]?=some (.cells (gens.map fun x=>Value.int .u64 x).toArray 69) ∧
 w.heap[f]?=some (.cells (free.map fun x=>Value.bool x).toArray 4)
theorem index_any (b : Nat) (l : List Bool) (cap : Nat) (t : TypeId) (w : World) (hl : l.length ≤ 4096) (hb : w.heap[b]? = some (.cells (l.map fun x => Value.bool x).toArray t)) (hin : true ∈ l) :
    Calls Tryz.prog 146 #[.slice (some ⟨b,0,none⟩) l.length cap,.bool true] w fun e w'=>e=.returned (.int .i64 (l.idxOf true))∧w=w':=by
 have hc:=cell_of_heap hb
 have hlt:l.idxOf true < l.length:=List.idxOf_lt_length_of_mem hin
 have hne:∀ k,k < l.idxOf true→l[k]?=some false:=by
  intro k hk;have h1:=List.not_of_lt_findIdx (p:=fun x=>x == true) (xs:=l) (i:=k) hk;rw [List.getElem?_eq_getElem (by omega)];simpa using h1
 have hit:l[l.idxOf true]?=some true:=by
  rw [List.getElem?_eq_getElem hlt];simp
 generalize l.idxOf true=m at *
 replace hne:=qh hne
 replace hc:=qh hc
 clear hin hb
 go_enter Tryz.func146,Tryz.ntmps146
 go_wp2
 go_loop [8] (fun i=>∃ k:Nat,k≤m∧i=.int .i64 k) (fun i=>m+1 - (intOf i).toNat)
 case atStart=>exact ⟨0,Nat.zero_le _,rfl⟩
 case round =>
  obtain ⟨k,hk,rfl⟩:=hrel;have hkl:k < l.length:=by omega
  by_cases hkm:k < m
  ·have h1:w.cell? ⟨b,k,none⟩=some (.bool false):=by rw [hc.out];simp [hne.out k hkm]
   go_wp2
   go_round
   case rel=>exact ⟨k+1,by omega,by go_num⟩
   case measure=>simp [intOf];omega
  ·obtain rfl:k=m:=by omega
   have h1:w.cell? ⟨b,k,none⟩=some (.bool true):=by rw [hc.out];simp [hit]
   go_wp2;go_ret;exact ⟨rfl,rfl⟩
theorem PoolIs.cells {w : World} {p g f : Nat} {gens : List Int} {free : List Bool} (h : PoolIs w p g f gens free) :
    w.cell? ⟨p,0,none⟩=some (.slice (some ⟨g,0,none⟩) free.length free.length)∧w.cell? ⟨p,1,none⟩=some (.slice (some ⟨f,0,none⟩) free.length free.length) ∧
    w.cell? ⟨p,2,none⟩=some (.int .i64 ((free.count true:Nat):Int))∧w.frozen? ⟨p,2,none⟩=false ∧
    (∀ i,w.cell? ⟨g,i,none⟩=(gens[i]?).map fun x=>Value.int .u64 x)∧(∀ i,w.cell? ⟨f,i,none⟩=(free[i]?).map fun x=>Value.bool x) ∧
    (∀ i,w.frozen? ⟨g,i,none⟩=false)∧(∀ i,w.frozen? ⟨f,i,none⟩=false):=by
 obtain ⟨_,_,_,_,_,h1,h2,h3⟩:=h
 refine ⟨?_,?_,?_,frozen_of_heap h1 2,fun i=>?_,fun i=>?_,frozen_of_heap h2,frozen_of_heap h3⟩
 ·rw [cell_of_heap h1];rfl
 ·rw [cell_of_heap h1];rfl
 ·rw [cell_of_heap h1];rfl
 ·rw [cell_of_heap h2];simp
 ·rw [cell_of_heap h3];simp
theorem pFree_any (p g f : Nat) (gens : List Int) (free : List Bool) (w : World) (h : PoolIs w p g f gens free) :
    Calls Tryz.prog 33 #[.pointer (some ⟨p,0,none⟩)] w fun e w'=>e=.returned (.int .i64 ((free.count true:Nat):Int))∧w=w':=by
 have h2:=h.cells.2.2.1
 clear h
 go_enter Tryz.func33,Tryz.ntmps33
 go_wp2
 go_ret
 exact ⟨rfl,rfl⟩
theorem pRoom_any (p g f : Nat) (gens : List Int) (free : List Bool) (n : Int) (w : World) (h : PoolIs w p g f gens free) :
    Calls Tryz.prog 65 #[.pointer (some ⟨p,0,none⟩),.int .i64 n] w fun e w'=>e=.returned (.bool (decide (n≤(free.count true:Nat))))∧Below w.heap.size w w':=by
 have h2:=h.cells.2.2.1
 clear h
 go_enter Tryz.func65,Tryz.ntmps65
 go_wp2
 go_ret
 exact ⟨rfl,Below.refl _ _⟩
theorem PoolIs.upd {S:List Nat} {w w':World} {p g f:Nat} {gens:List Int} {free:List Bool} (h:PoolIs w p g f gens free) (hu:Upd S w w') (hp:p∉S) (hg:g∉S) (hf:f∉S):PoolIs w' p g f gens free:=by
 obtain ⟨a,b,c,d,e,h1,h2,h3⟩:=h
 exact ⟨a,b,c,d,e,hu.heap h1 hp,hu.heap h2 hg,hu.heap h3 hf⟩
theorem PoolIs.below {w w':World} {p g f:Nat} {gens:List Int} {free:List Bool} (h:PoolIs w p g f gens free) (hb:Below w.heap.size w w'):PoolIs w' p g f gens free :=
 h.upd (Upd.of_below (S:=[]) hb) (by simp) (by simp) (by simp)
theorem count_set_false (free:List Bool) (i:Nat) (hi:i < free.length) (ht:free[i]?=some true):((free.set i false).count true:Int)=(free.count true:Int) - 1:=by
 have this:=List.count_set (a:=false) (b:=true) (l:=free) hi
 rw [List.getElem?_eq_getElem hi] at ht
 simp only [Option.some.injEq] at ht
 have h1:0 < free.count true:=List.count_pos_iff.2 (by rw [← ht];exact List.getElem_mem hi)
 rw [ht] at this
 simp only [beq_self_eq_true,if_true,show (false == true)=false from rfl,Bool.false_eq_true,if_false] at this
 omega
theorem pTake_some (p g f : Nat) (gens : List Int) (free : List Bool) (w : World) (h : PoolIs w p g f gens free) (hn : true ∈ free) :
    Calls Tryz.prog 118 #[.pointer (some ⟨p,0,none⟩)] w fun e w'=>e=.returned (.tuple #[.agg #[.int .i64 (free.idxOf true),.int .u64 (gens.getD (free.idxOf true) 0)],.bool true])∧Upd [p,f] w w'∧PoolIs w' p g f gens (free.set (free.idxOf true) false):=by
 obtain ⟨c0,c1,c2,f2,cg,cf,fg,ff⟩:=h.cells
 obtain ⟨hl1,hl2,n1,n2,n3,b1,b2,b3⟩:=h
 have hp:p < w.heap.size:=heap_lt b1
 have hg:g < w.heap.size:=heap_lt b2
 have hf:f < w.heap.size:=heap_lt b3
 have hlt:free.idxOf true < free.length:=List.idxOf_lt_length_of_mem hn
 have hit:free[free.idxOf true]?=some true:=by rw [List.getElem?_eq_getElem hlt];simp
 have hcnt:=count_set_false free _ hlt hit
 have hpos:0 < free.count true:=List.count_pos_iff.2 hn
 have hz:(((free.count true:Nat):Int) == 0)=false:=by rw [beq_eq_false_iff_ne];omega
 have hbd:free.count true≤free.length:=List.count_le_length
 have cg':=cg (free.idxOf true)
 rw [List.getElem?_eq_getElem (by omega),Option.map_some] at cg'
 have hgd:gens.getD (free.idxOf true) 0=gens[free.idxOf true]'(by omega):=by simp [List.getD,List.getElem?_eq_getElem (show free.idxOf true < gens.length by omega)]
 rw [← hgd] at cg'
 have cf':=cf (free.idxOf true)
 rw [hit,Option.map_some] at cf'
 have fg':=fg (free.idxOf true)
 have ff':=ff (free.idxOf true)
 have n1':¬ g=p:=fun h=>n1 h.symm
 have n2':¬ f=p:=fun h=>n2 h.symm
 have n3':¬ f=g:=fun h=>n3 h.symm
 clear cg cf fg ff hit hgd
 have H1:=qh b1
 have H2:=qh b2
 have H3:=qh b3
 have HI:=fun (W:World) (hW:W.heap[f]?=some (.cells (free.map fun x=>Value.bool x).toArray 4))=>index_any f free free.length 4 W hl2 hW hn
 have HC:=qh hcnt
 replace HI:=qh HI
 generalize gens.getD (free.idxOf true) 0=gv at *
 generalize free.idxOf true=i at *
 clear b1 b2 b3 hcnt
 go_enter Tryz.func118,Tryz.ntmps118
 go_wp2_with fail
 refine (HI.out _ ?_).mono ?_
 ·exact heap_alloc_old _ H3.out
 rintro e w' ⟨rfl,rfl⟩
 go_wp2_with fail
 refine bodyPost_ret (v:=.tuple #[.agg #[.int .i64 i,.int .u64 gv],.bool true]) (by simp [results,Tryz.results118,go_sem]) rfl ⟨rfl,?_,?_⟩
 ·exact (((Upd.refl _ _).setCell (by simp) _).setCell (by simp) _).alloc _
 ·have e1 : (((w.setCell { block := f, off := i } (Value.bool false)).setCell { block := p, off := 2 } (Value.int IntKind.i64 (↑(List.count true free) - 1))).alloc (Obj.cells #[Value.int IntKind.i64 ↑i, Value.int IntKind.u64 gv] 71)).heap[f]? = some (.cells ((free.map fun x => Value.bool x).toArray.setIfInBounds i (Value.bool false)) 4) := by
    refine heap_alloc_old _ ?_;rw [heap_set_other _ _ (by simpa using n2')];exact heap_set_same H3.out _ _
  have e2:(((w.setCell { block:=f,off:=i } (Value.bool false)).setCell { block:=p,off:=2 } (Value.int IntKind.i64 (↑(List.count true free) - 1))).alloc (Obj.cells #[Value.int IntKind.i64 ↑i,Value.int IntKind.u64 gv] 71)).heap[g]?=some (.cells (gens.map fun x=>Value.int .u64 x).toArray 69):=by
   refine heap_alloc_old _ ?_;rw [heap_set_other _ _ (by simpa using n1'),heap_set_other _ _ (by simpa using n3)];exact H2.out
  have hpf:(w.setCell { block:=f,off:=i } (Value.bool false)).heap[p]?=some (.cells #[.slice (some ⟨g,0,none⟩) free.length free.length,.slice (some ⟨f,0,none⟩) free.length free.length,.int .i64 ((free.count true:Nat):Int)] 87):=by
   rw [heap_set_other _ _ (by simpa using n2)];exact H1.out
  have e3:=heap_alloc_old (Obj.cells #[Value.int IntKind.i64 ↑i,Value.int IntKind.u64 gv] 71) (heap_set_same hpf 2 (Value.int IntKind.i64 (↑(List.count true free) - 1)));refine ⟨by simpa using hl1,by simpa using hl2,n1,n2,n3,?_,e2,?_⟩
  ·rw [e3,HC.out]
   simp
  ·rw [e1]
   simp
theorem pGive_any (p g f : Nat) (gens : List Int) (free : List Bool) (i : Nat) (w : World) (h : PoolIs w p g f gens free) (hi : free[i]? = some false) :
    Calls Tryz.prog 130 #[.pointer (some ⟨p,0,none⟩),.int .i64 i] w fun e w'=>e=.returned (.tuple #[])∧Upd [p,g,f] w w'∧PoolIs w' p g f (gens.set i (IntKind.u64.wrap (gens.getD i 0+1))) (free.set i true):=by
 obtain ⟨c0,c1,c2,f2,cg,cf,fg,ff⟩:=h.cells
 obtain ⟨hl1,hl2,n1,n2,n3,b1,b2,b3⟩:=h
 have hlt:i < free.length:=by
  rcases Nat.lt_or_ge i free.length with h1 | h1
  ·exact h1
  ·rw [List.getElem?_eq_none h1] at hi;cases hi
 have hcnt:((free.set i true).count true:Int)=(free.count true:Int)+1:=by
  have:=List.count_set (a:=true) (b:=true) (l:=free) hlt;rw [List.getElem?_eq_getElem hlt] at hi;simp at hi this;rw [hi] at this;simp at this;omega
 have hbd:free.count true≤free.length:=List.count_le_length
 have cg':=cg i
 rw [List.getElem?_eq_getElem (by omega),Option.map_some] at cg'
 have hgd:gens.getD i 0=gens[i]'(by omega):=by simp [List.getD,List.getElem?_eq_getElem (show i < gens.length by omega)]
 rw [← hgd] at cg'
 have cf':=cf i
 rw [hi,Option.map_some] at cf'
 have fg':=fg i
 have ff':=ff i
 have n1':¬ g=p:=fun h=>n1 h.symm
 have n2':¬ f=p:=fun h=>n2 h.symm
 have n3':¬ f=g:=fun h=>n3 h.symm
 clear cg cf fg ff hi hgd
 have H1:=qh b1
 have H2:=qh b2
 have H3:=qh b3
 have HC:=qh hcnt
 clear b1 b2 b3 hcnt
 generalize gens.getD i 0=gv at *
 go_enter Tryz.func130,Tryz.ntmps130
 go_wp2
 go_end0
 refine ⟨rfl,?_,?_⟩
 ·exact (((Upd.refl _ _).setCell (by simp) _).setCell (by simp) _).setCell (by simp) _
 ·have hgf : (w.setCell { block := f, off := i } (Value.bool true)).heap[g]? = some (.cells (gens.map fun x => Value.int .u64 x).toArray 69) := by
    rw [heap_set_other _ _ (by simpa using n3)];exact H2.out
  have hpf:((w.setCell { block:=f,off:=i } (Value.bool true)).setCell { block:=g,off:=i } (Value.int IntKind.u64 (IntKind.u64.wrap (gv+1)))).heap[p]?=some (.cells #[.slice (some ⟨g,0,none⟩) free.length free.length,.slice (some ⟨f,0,none⟩) free.length free.length,.int .i64 ((free.count true:Nat):Int)] 87):=by
   rw [heap_set_other _ _ (by simpa using n1),heap_set_other _ _ (by simpa using n2)];exact H1.out
  have e3:=heap_set_same hpf 2 (Value.int IntKind.i64 (↑(List.count true free)+1));have e2:=heap_set_same hgf i (Value.int IntKind.u64 (IntKind.u64.wrap (gv+1)));have e1:=heap_set_same H3.out i (Value.bool true);refine ⟨by simpa using hl1,by simpa using hl2,n1,n2,n3,?_,?_,?_⟩
  ·rw [e3,HC.out]
   simp
  ·rw [heap_set_other _ _ (by simpa using n1'),e2]
   simp
  ·rw [heap_set_other _ _ (by simpa using n2'),heap_set_other _ _ (by simpa using n3'),e1]
   simp
def part {α:Type} (n k:Nat) (a b:α):List α:=List.replicate k a++List.replicate (n - k) b
theorem part_set {α:Type} (n k:Nat) (a b:α) (h:k < n):(part n k a b).set k a=part n (k+1) a b:=by
 unfold part
 rw [show n - k=(n - (k+1))+1 by omega,List.replicate_succ,List.set_append_right _ _ (by simp)]
 simp [List.replicate_succ',List.append_assoc]
theorem madeCells_part {α:Type} (n:Nat) (a b:α) (F:α→Value):(madeCells #[F b] n)=((part n 0 a b).map F).toArray:=by
 unfold madeCells part
 apply Array.ext_getElem?
 intro i
 by_cases h:i < n
 ·simp [h,Nat.mod_one]
 ·simp [h]
theorem part_get {α:Type} (n k:Nat) (a b:α) (h:k < n):(part n k a b)[k]?=some b:=by
 unfold part
 rw [List.getElem?_append_right (by simp)]
 simp [List.getElem?_replicate]
 omega
theorem arNewPool_some (n : Nat) (w : World) (h0 : 1 ≤ n) (h1 : n ≤ 4096) :
    Calls Tryz.prog 11 #[.int .i64 n] w fun e w'=>∃ p g f,e=.returned (.tuple #[.pointer (some ⟨p,0,none⟩),.int .i64 0])∧Below w.heap.size w w'∧w.heap.size≤p∧w.heap.size≤g∧w.heap.size≤f ∧
     PoolIs w' p g f (List.replicate n 1) (List.replicate n true):=by
 have hm1:=fun W=>run_make_row' (P:=Tryz.prog) 84 69 (.int .u64 0) 8 Tryz.underlying84 (by kernel_rfl) rfl .i64 .i64 n (by omega) (by omega) W
 have hm2:=fun W=>run_make_row' (P:=Tryz.prog) 85 4 (.bool false) 1 Tryz.underlying85 (by kernel_rfl) rfl .i64 .i64 n (by omega) (by omega) W
 rw [madeCells_part n 1 0 (fun x=>Value.int .u64 x)] at hm1
 rw [madeCells_part n true false (fun x=>Value.bool x)] at hm2
 have h2:decide ((n:Int) < 1)=false:=by simp;omega
 have h3:decide (4096 < (n:Int))=false:=by simp;omega
 go_enter Tryz.func11,Tryz.ntmps11
 go_wp2
 go_region
 ·have e1:=heap_alloc_old (.cells #[.slice (some ⟨w.heap.size,0,none⟩) n n,.slice (some ⟨w.heap.size+1,0,none⟩) n n,.int .i64 n] 87) (heap_alloc_old (.cells ((part n 0 true false).map fun x=>Value.bool x).toArray 4) (heap_alloc_new w (.cells ((part n 0 (1:Int) 0).map fun x=>Value.int .u64 x).toArray 69)))
  have e2:=heap_alloc_old (.cells #[.slice (some ⟨w.heap.size,0,none⟩) n n,.slice (some ⟨w.heap.size+1,0,none⟩) n n,.int .i64 n] 87) (heap_alloc_new (w.alloc (.cells ((part n 0 (1:Int) 0).map fun x=>Value.int .u64 x).toArray 69)) (.cells ((part n 0 true false).map fun x=>Value.bool x).toArray 4));have e3:=heap_alloc_new ((w.alloc (.cells ((part n 0 (1:Int) 0).map fun x=>Value.int .u64 x).toArray 69)).alloc (.cells ((part n 0 true false).map fun x=>Value.bool x).toArray 4)) (.cells #[.slice (some ⟨w.heap.size,0,none⟩) n n,.slice (some ⟨w.heap.size+1,0,none⟩) n n,.int .i64 n] 87);simp only [World.size_alloc] at e2 e3;have hB:Below w.heap.size w (((w.alloc (.cells ((part n 0 (1:Int) 0).map fun x=>Value.int .u64 x).toArray 69)).alloc (.cells ((part n 0 true false).map fun x=>Value.bool x).toArray 4)).alloc (.cells #[.slice (some ⟨w.heap.size,0,none⟩) n n,.slice (some ⟨w.heap.size+1,0,none⟩) n n,.int .i64 n] 87)).drew:=((((Below.refl _ _).alloc (Nat.le_refl _) _).alloc (by simp) _).alloc (by simp;omega) _).drew;replace e1:(((w.alloc (.cells ((part n 0 (1:Int) 0).map fun x=>Value.int .u64 x).toArray 69)).alloc (.cells ((part n 0 true false).map fun x=>Value.bool x).toArray 4)).alloc (.cells #[.slice (some ⟨w.heap.size,0,none⟩) n n,.slice (some ⟨w.heap.size+1,0,none⟩) n n,.int .i64 n] 87)).drew.heap[w.heap.size]?=_:=e1;replace e2:(((w.alloc (.cells ((part n 0 (1:Int) 0).map fun x=>Value.int .u64 x).toArray 69)).alloc (.cells ((part n 0 true false).map fun x=>Value.bool x).toArray 4)).alloc (.cells #[.slice (some ⟨w.heap.size,0,none⟩) n n,.slice (some ⟨w.heap.size+1,0,none⟩) n n,.int .i64 n] 87)).drew.heap[w.heap.size+1]?=_:=e2
  replace e3:(((w.alloc (.cells ((part n 0 (1:Int) 0).map fun x=>Value.int .u64 x).toArray 69)).alloc (.cells ((part n 0 true false).map fun x=>Value.bool x).toArray 4)).alloc (.cells #[.slice (some ⟨w.heap.size,0,none⟩) n n,.slice (some ⟨w.heap.size+1,0,none⟩) n n,.int .i64 n] 87)).drew.heap[w.heap.size+1+1]?=_:=e3;generalize (((w.alloc (.cells ((part n 0 (1:Int) 0).map fun x=>Value.int .u64 x).toArray 69)).alloc (.cells ((part n 0 true false).map fun x=>Value.bool x).toArray 4)).alloc (.cells #[.slice (some ⟨w.heap.size,0,none⟩) n n,.slice (some ⟨w.heap.size+1,0,none⟩) n n,.int .i64 n] 87)).drew=w4 at *;go_wp2_with fail
  go_loopw [20] (fun i wr=>∃ k:Nat,k≤n∧i=.int .i64 k∧Below w.heap.size w wr∧wr.heap[w.heap.size+1+1]?=some (.cells #[.slice (some ⟨w.heap.size,0,none⟩) n n,.slice (some ⟨w.heap.size+1,0,none⟩) n n,.int .i64 n] 87)∧wr.heap[w.heap.size]?=some (.cells ((part n k (1:Int) 0).map fun x=>Value.int .u64 x).toArray 69)∧wr.heap[w.heap.size+1]?=some (.cells ((part n k true false).map fun x=>Value.bool x).toArray 4)) (fun i _=>n - (intOf i).toNat)
  case atStart=>exact ⟨0,Nat.zero_le _,rfl,hB,e3,e1,e2⟩
  case round =>
   obtain ⟨k,hk,rfl,hBr,q1,q2,q3⟩:=hrel;clear e1 e2 e3 hB hm1 hm2;by_cases hlt:k < n
   ·have c0:wr.cell? ⟨w.heap.size+1+1,0,none⟩=some (.slice (some ⟨w.heap.size,0,none⟩) n n):=by rw [cell_of_heap q1];rfl
    have c1:wr.cell? ⟨w.heap.size+1+1,1,none⟩=some (.slice (some ⟨w.heap.size+1,0,none⟩) n n):=by rw [cell_of_heap q1];rfl
    have c2:wr.cell? ⟨w.heap.size,k,none⟩=some (.int .u64 0):=by rw [cell_of_heap q2];simp [part_get n k (1:Int) 0 hlt]
    have c3:wr.cell? ⟨w.heap.size+1,k,none⟩=some (.bool false):=by rw [cell_of_heap q3];simp [part_get n k true false hlt]
    have f2:=frozen_of_heap q2 k;have f3:=frozen_of_heap q3 k;have H1:=qh q1;have H2:=qh q2;have H3:=qh q3;clear q1 q2 q3;go_wp2
    go_roundw
    case rel =>
     refine ⟨k+1,by omega,by go_num,(hBr.setCell (by simp) _).setCell (by simp) _,?_,?_,?_⟩
     ·rw [heap_set_other _ _ (by dsimp only;omega),heap_set_other _ _ (by dsimp only;omega)];exact H1.out
     ·rw [heap_set_other _ _ (by dsimp only;omega),heap_set_same H2.out,← part_set n k (1:Int) 0 hlt];simp
     ·have:=heap_set_same (w:=wr.setCell { block:=w.heap.size,off:=k } (Value.int IntKind.u64 1)) (b:=w.heap.size+1) (c:=((part n k true false).map fun x=>Value.bool x).toArray) (t:=4) (fr:=(0,0)) (by rw [heap_set_other _ _ (by dsimp only;omega)];exact H3.out) k (.bool true)
      rw [this,← part_set n k true false hlt];simp
    case measure=>simp [intOf];omega
   ·obtain rfl:k=n:=by omega
    have H1:=qh q1;have H2:=qh q2;have H3:=qh q3;clear q1 q2 q3;go_wp2;go_ret2;refine ⟨w.heap.size+1+1,w.heap.size,w.heap.size+1,rfl,hBr,by omega,by omega,by omega,by simp,by simpa using h1,by omega,by omega,by omega,?_,?_,?_⟩
    ·rw [H1.out];simp
    ·rw [H2.out];simp [part]
    ·rw [H3.out];simp [part]
 ·have e1:=heap_alloc_old (.cells #[.slice (some ⟨w.heap.size+1,0,none⟩) n n,.slice (some ⟨w.heap.size,0,none⟩) n n,.int .i64 n] 87) (heap_alloc_old (.cells ((part n 0 (1:Int) 0).map fun x=>Value.int .u64 x).toArray 69) (heap_alloc_new w (.cells ((part n 0 true false).map fun x=>Value.bool x).toArray 4)))
  have e2:=heap_alloc_old (.cells #[.slice (some ⟨w.heap.size+1,0,none⟩) n n,.slice (some ⟨w.heap.size,0,none⟩) n n,.int .i64 n] 87) (heap_alloc_new (w.alloc (.cells ((part n 0 true false).map fun x=>Value.bool x).toArray 4)) (.cells ((part n 0 (1:Int) 0).map fun x=>Value.int .u64 x).toArray 69));have e3:=heap_alloc_new ((w.alloc (.cells ((part n 0 true false).map fun x=>Value.bool x).toArray 4)).alloc (.cells ((part n 0 (1:Int) 0).map fun x=>Value.int .u64 x).toArray 69)) (.cells #[.slice (some ⟨w.heap.size+1,0,none⟩) n n,.slice (some ⟨w.heap.size,0,none⟩) n n,.int .i64 n] 87);simp only [World.size_alloc] at e2 e3;have hB:Below w.heap.size w (((w.alloc (.cells ((part n 0 true false).map fun x=>Value.bool x).toArray 4)).alloc (.cells ((part n 0 (1:Int) 0).map fun x=>Value.int .u64 x).toArray 69)).alloc (.cells #[.slice (some ⟨w.heap.size+1,0,none⟩) n n,.slice (some ⟨w.heap.size,0,none⟩) n n,.int .i64 n] 87)).drew:=((((Below.refl _ _).alloc (Nat.le_refl _) _).alloc (by simp) _).alloc (by simp;omega) _).drew;replace e1:(((w.alloc (.cells ((part n 0 true false).map fun x=>Value.bool x).toArray 4)).alloc (.cells ((part n 0 (1:Int) 0).map fun x=>Value.int .u64 x).toArray 69)).alloc (.cells #[.slice (some ⟨w.heap.size+1,0,none⟩) n n,.slice (some ⟨w.heap.size,0,none⟩) n n,.int .i64 n] 87)).drew.heap[w.heap.size]?=_:=e1;replace e2:(((w.alloc (.cells ((part n 0 true false).map fun x=>Value.bool x).toArray 4)).alloc (.cells ((part n 0 (1:Int) 0).map fun x=>Value.int .u64 x).toArray 69)).alloc (.cells #[.slice (some ⟨w.heap.size+1,0,none⟩) n n,.slice (some ⟨w.heap.size,0,none⟩) n n,.int .i64 n] 87)).drew.heap[w.heap.size+1]?=_:=e2
  replace e3:(((w.alloc (.cells ((part n 0 true false).map fun x=>Value.bool x).toArray 4)).alloc (.cells ((part n 0 (1:Int) 0).map fun x=>Value.int .u64 x).toArray 69)).alloc (.cells #[.slice (some ⟨w.heap.size+1,0,none⟩) n n,.slice (some ⟨w.heap.size,0,none⟩) n n,.int .i64 n] 87)).drew.heap[w.heap.size+1+1]?=_:=e3;generalize (((w.alloc (.cells ((part n 0 true false).map fun x=>Value.bool x).toArray 4)).alloc (.cells ((part n 0 (1:Int) 0).map fun x=>Value.int .u64 x).toArray 69)).alloc (.cells #[.slice (some ⟨w.heap.size+1,0,none⟩) n n,.slice (some ⟨w.heap.size,0,none⟩) n n,.int .i64 n] 87)).drew=w4 at *;go_wp2_with fail
  go_loopw [20] (fun i wr=>∃ k:Nat,k≤n∧i=.int .i64 k∧Below w.heap.size w wr∧wr.heap[w.heap.size+1+1]?=some (.cells #[.slice (some ⟨w.heap.size+1,0,none⟩) n n,.slice (some ⟨w.heap.size,0,none⟩) n n,.int .i64 n] 87)∧wr.heap[w.heap.size+1]?=some (.cells ((part n k (1:Int) 0).map fun x=>Value.int .u64 x).toArray 69)∧wr.heap[w.heap.size]?=some (.cells ((part n k true false).map fun x=>Value.bool x).toArray 4)) (fun i _=>n - (intOf i).toNat)
  case atStart=>exact ⟨0,Nat.zero_le _,rfl,hB,e3,e2,e1⟩
  case round =>
   obtain ⟨k,hk,rfl,hBr,q1,q2,q3⟩:=hrel;clear e1 e2 e3 hB hm1 hm2;by_cases hlt:k < n
   ·have c0:wr.cell? ⟨w.heap.size+1+1,0,none⟩=some (.slice (some ⟨w.heap.size+1,0,none⟩) n n):=by rw [cell_of_heap q1];rfl
    have c1:wr.cell? ⟨w.heap.size+1+1,1,none⟩=some (.slice (some ⟨w.heap.size,0,none⟩) n n):=by rw [cell_of_heap q1];rfl
    have c2:wr.cell? ⟨w.heap.size+1,k,none⟩=some (.int .u64 0):=by rw [cell_of_heap q2];simp [part_get n k (1:Int) 0 hlt]
    have c3:wr.cell? ⟨w.heap.size,k,none⟩=some (.bool false):=by rw [cell_of_heap q3];simp [part_get n k true false hlt]
    have f2:=frozen_of_heap q2 k;have f3:=frozen_of_heap q3 k;have H1:=qh q1;have H2:=qh q2;have H3:=qh q3;clear q1 q2 q3;go_wp2
    go_roundw
    case rel =>
     refine ⟨k+1,by omega,by go_num,(hBr.setCell (by simp) _).setCell (by simp) _,?_,?_,?_⟩
     ·rw [heap_set_other _ _ (by dsimp only;omega),heap_set_other _ _ (by dsimp only;omega)];exact H1.out
     ·rw [heap_set_other _ _ (by dsimp only;omega),heap_set_same H2.out,← part_set n k (1:Int) 0 hlt];simp
     ·have:=heap_set_same (w:=wr.setCell { block:=w.heap.size+1,off:=k } (Value.int IntKind.u64 1)) (b:=w.heap.size) (c:=((part n k true false).map fun x=>Value.bool x).toArray) (t:=4) (fr:=(0,0)) (by rw [heap_set_other _ _ (by dsimp only;omega)];exact H3.out) k (.bool true)
      rw [this,← part_set n k true false hlt];simp
    case measure=>simp [intOf];omega
   ·obtain rfl:k=n:=by omega
    have H1:=qh q1;have H2:=qh q2;have H3:=qh q3;clear q1 q2 q3;go_wp2;go_ret2;refine ⟨w.heap.size+1+1,w.heap.size+1,w.heap.size,rfl,hBr,by omega,by omega,by omega,by simp,by simpa using h1,by omega,by omega,by omega,?_,?_,?_⟩
    ·rw [H1.out];simp
    ·rw [H2.out];simp [part]
    ·rw [H3.out];simp [part]
open Go.MapKept
structure Ent where
 k:Int
 v:Value
 born:Nat
def Ent.toEntry (e:Ent):MapEntry:={ key:=.int .i64 e.k,val:=e.v,born:=e.born }
def ents (L:List Ent):Array MapEntry:=(L.map Ent.toEntry).toArray
def seekFrom (k:Int):List Ent→Nat→Option (Nat×Value)
 | [],_=>none
 | e::es,i=>if k=e.k then some (i,e.v) else seekFrom k es (i+1)
theorem findNow_ents (k:Int):∀ (L:List Ent) (i:Nat),Instr.findNow (.int .i64) (.int .i64 k) (L.map Ent.toEntry) i=some (seekFrom k L i)
 | [],_=>rfl
 | e::es,i=>by
  simp only [List.map_cons,Instr.findNow,Ent.toEntry,Instr.sameNow,seekFrom];by_cases h:k=e.k
  ·simp [h]
  ·have:=findNow_ents k es (i+1)
   have hb:(k == e.k)=false:=by simpa using h
   simp [h,this,hb]
def val? (L:List Ent) (k:Int):Option Value:=(L.find? fun e=>k=e.k).map Ent.v
theorem seek_val (k:Int):∀ (L:List Ent) (i:Nat),(seekFrom k L i).map (·.2)=val? L k
 | [],_=>rfl
 | e::es,i=>by
  by_cases h:k=e.k
  ·simp [seekFrom,val?,h]
  ·have:=seek_val k es (i+1)
   simp only [val?] at this;simp [seekFrom,val?,h,this]
def setEnt (k:Int) (v:Value) (c:Nat):List Ent→List Ent
 | []=>[⟨k,v,c⟩]
 | e::es=>if k=e.k then { e with v:=v }::es else e::setEnt k v c es
def dropEnt (k:Int):List Ent→List Ent
 | []=>[]
 | e::es=>if k=e.k then es else e::dropEnt k es
section
variable {P:Program} {w:World}
theorem run_lookup_ok {T K E : TypeId} {r : Nat} {L : List Ent} {c : Nat} {z : Value} (k : Int) (hT : P.underlying T = some (.map K E)) (hK : P.underlying K = some (.int .i64)) (hb : w.heap[r]? = some (.map (ents L) c))
    (hz:(zeroValue E).run P w=.ok z w) :
    (Instr.lookup T (.map (some r)) (.int .i64 k) true).run P w=.ok (.tuple #[(val? L k).getD z,.bool (val? L k).isSome]) w:=by
 have hc:(Instr.checkKey (ents L).isEmpty 10000 K (.int .i64 k)).run P w=.ok () w:=run_checkKey (k:=.int .i64 k) hK (by simp [IsKey]) _ 9999
 have hf:(Instr.findKey K (.int .i64 k) (ents L).toList).run P w=.ok (seekFrom k L 0) w:=run_findKey hK (findNow_ents k L 0)
 have hs:=seek_val k L 0
 cases h:seekFrom k L 0 with
 | none =>
  rw [h] at hf hs;simp only [Option.map_none] at hs;rw [← hs];simp [Instr.lookup,run_underlying hT,MapKept.run_getObj_map hb,hc,hf,Result.andThen,hz]
 | some x =>
  rw [h] at hf hs;simp only [Option.map_some] at hs;rw [← hs];simp [Instr.lookup,run_underlying hT,MapKept.run_getObj_map hb,hc,hf,Result.andThen]
theorem seek_at (k:Int):∀ (L:List Ent) (i j:Nat) (v:Value),seekFrom k L i=some (j,v)→i≤j∧j < i+L.length∧∃ e,L[j - i]?=some e∧e.k=k∧e.v=v
 | [],_,_,_,h=>by simp [seekFrom] at h
 | e::es,i,j,v,h=>by
  unfold seekFrom at h;split at h
  ·rename_i hk
   simp only [Option.some.injEq,Prod.mk.injEq] at h;obtain ⟨rfl,rfl⟩:=h;exact ⟨Nat.le_refl _,by simp,e,by simp,hk.symm,rfl⟩
  ·obtain ⟨h1,h2,e',h3,h4⟩:=seek_at k es (i+1) j v h
   refine ⟨by omega,by simp;omega,e',?_,h4⟩;rw [show j - i=(j - (i+1))+1 by omega];simpa using h3
theorem setEnt_hit (k:Int) (x:Value) (c:Nat):∀ (L:List Ent) (i j:Nat) (v:Value),seekFrom k L i=some (j,v)→setEnt k x c L=L.modify (j - i) fun e=>{ e with v:=x }
 | [],_,_,_,h=>by simp [seekFrom] at h
 | e::es,i,j,v,h=>by
  have h0:=seek_at k (e::es) i j v h;unfold seekFrom at h;split at h
  ·rename_i hk
   simp only [Option.some.injEq,Prod.mk.injEq] at h;obtain ⟨rfl,rfl⟩:=h;simp [setEnt,hk]
  ·rename_i hk
   have h2:=seek_at k es (i+1) j v h;have h1:=setEnt_hit k x c es (i+1) j v h;rw [show j - i=(j - (i+1))+1 by omega];simp [setEnt,hk,h1]
theorem setEnt_miss (k:Int) (x:Value) (c:Nat):∀ (L:List Ent) (i:Nat),seekFrom k L i=none→setEnt k x c L=L++[⟨k,x,c⟩]
 | [],_,_=>rfl
 | e::es,i,h=>by
  unfold seekFrom at h;split at h
  ·cases h
  ·rename_i hk
   simp [setEnt,hk,setEnt_miss k x c es (i+1) h]
theorem seek_none (k:Int):∀ (L:List Ent) (i:Nat),val? L k=none→seekFrom k L i=none
 | L,i,h=>by
  have:=seek_val k L i;rw [h] at this
  cases hs:seekFrom k L i with
  | none=>rfl
  | some x=>rw [hs] at this;cases this
theorem setEnt_none (k:Int) (x:Value) (c:Nat) (L:List Ent) (h:val? L k=none):setEnt k x c L=L++[⟨k,x,c⟩]:=setEnt_miss k x c L 0 (seek_none k L 0 h)
theorem dropEnt_hit (k:Int):∀ (L:List Ent) (i j:Nat) (v:Value),seekFrom k L i=some (j,v)→dropEnt k L=L.eraseIdx (j - i)
 | [],_,_,_,h=>by simp [seekFrom] at h
 | e::es,i,j,v,h=>by
  unfold seekFrom at h;split at h
  ·rename_i hk
   simp only [Option.some.injEq,Prod.mk.injEq] at h;obtain ⟨rfl,rfl⟩:=h;simp [dropEnt,hk]
  ·rename_i hk
   have h2:=seek_at k es (i+1) j v h;have h1:=dropEnt_hit k es (i+1) j v h;rw [show j - i=(j - (i+1))+1 by omega];simp [dropEnt,hk,h1]
theorem dropEnt_miss (k:Int):∀ (L:List Ent) (i:Nat),seekFrom k L i=none→dropEnt k L=L
 | [],_,_=>rfl
 | e::es,i,h=>by
  unfold seekFrom at h;split at h
  ·cases h
  ·rename_i hk
   simp [dropEnt,hk,dropEnt_miss k es (i+1) h]
def World.setObj' (w:World) (r:Nat) (o:Obj):World:={ w with heap:=w.heap.setIfInBounds r o }
theorem heap_setObj_same {w:World} {r:Nat} (o:Obj) (h:r < w.heap.size):(World.setObj' w r o).heap[r]?=some o:=by
 simp [World.setObj',h]
theorem heap_setObj_other {w:World} {r b:Nat} (o:Obj) (h:b≠r):(World.setObj' w r o).heap[b]?=w.heap[b]?:=by
 simp only [World.setObj',Array.getElem?_setIfInBounds]
 rw [if_neg (fun e=>h e.symm)]
theorem size_setObj (w:World) (r:Nat) (o:Obj):(World.setObj' w r o).heap.size=w.heap.size:=by simp [World.setObj']
theorem Upd.setObj {S:List Nat} {a w:World} (h:Upd S a w) {r:Nat} (hr:r∈S) (o:Obj):Upd S a (World.setObj' w r o) :=
 h.trans ⟨rfl,rfl,rfl,by rw [size_setObj];exact Nat.le_refl _,fun k _ hn=>heap_setObj_other _ (fun e=>hn (by rw [e];exact hr))⟩
theorem run_update {T K E : TypeId} {r : Nat} {L : List Ent} {c : Nat} (k : Int) (x : Value) (hT : P.underlying T = some (.map K E)) (hK : P.underlying K = some (.int .i64)) (hb : w.heap[r]? = some (.map (ents L) c)) :
    (Instr.mapUpdate T (.map (some r)) (.int .i64 k) x).run P w=.ok () (World.setObj' w r (.map (ents (setEnt k x c L)) (if (val? L k).isSome then c else c+1))):=by
 have hc:(Instr.checkKey false 10000 K (.int .i64 k)).run P w=.ok () w:=run_checkKey (k:=.int .i64 k) hK (by simp [IsKey]) _ 9999
 have hf:(Instr.findKey K (.int .i64 k) (ents L).toList).run P w=.ok (seekFrom k L 0) w:=run_findKey hK (findNow_ents k L 0)
 have hs:=seek_val k L 0
 cases h:seekFrom k L 0 with
 | none =>
  rw [h] at hf hs;simp only [Option.map_none] at hs;rw [← hs,setEnt_miss k x c L 0 h]
  have hp:(ents L).push { key:=.int .i64 k,val:=x,born:=c }=ents (L++[⟨k,x,c⟩]):=by
   simp [ents,Ent.toEntry]
  simp [Instr.mapUpdate,run_underlying hT,MapKept.run_getObj_map hb,hc,hf,Result.andThen,MapKept.run_setObj_map _ hb,World.setObj',hp]
 | some y =>
  obtain ⟨j,v⟩:=y;rw [h] at hf hs;simp only [Option.map_some] at hs;obtain ⟨_,hj,e,he,hek,hev⟩:=seek_at k L 0 j v h;rw [← hs,setEnt_hit k x c L 0 j v h];simp only [Nat.zero_add,Nat.sub_zero] at hj he
  have hkey:((ents L)[j]?.map (·.key)).getD (.int .i64 k)=.int .i64 k:=by
   simp [ents,he,Ent.toEntry,hek]
  have hst:(Instr.keyThatStays (.int .i64 k) (.int .i64 k)).run P w=.ok (.int .i64 k) w:=by
   simp [Instr.keyThatStays,Instr.sameBits]
  have hmod:(ents L).modify j (fun e=>{ e with key:=.int .i64 k,val:=x })=ents (L.modify j fun e=>{ e with v:=x }):=by
   apply Array.ext_getElem?
   intro i;unfold ents;simp only [Array.getElem?_modify,zg1,List.getElem?_map,List.getElem?_modify];by_cases hij:j=i
   ·subst hij
    simp [he,Ent.toEntry,hek]
   ·simp [hij]
  simp [Instr.mapUpdate,run_underlying hT,MapKept.run_getObj_map hb,hc,hf,Result.andThen,MapKept.run_setObj_map _ hb,World.setObj',hkey,hst,hmod]
theorem run_delete {T K E KT ty : TypeId} {r : Nat} {L : List Ent} {c : Nat} (k : Int) (hT : P.underlying T = some (.map K E)) (hK : P.underlying K = some (.int .i64)) (hb : w.heap[r]? = some (.map (ents L) c)) :
    (Builtin.delete_ #[T,KT] ty #[.map (some r),.int .i64 k]).run P w=.ok (.tuple #[]) (World.setObj' w r (.map (ents (dropEnt k L)) c)):=by
 have hc:(Instr.checkKey (ents L).isEmpty 10000 K (.int .i64 k)).run P w=.ok () w:=run_checkKey (k:=.int .i64 k) hK (by simp [IsKey]) _ 9999
 have hf:(Instr.findKey K (.int .i64 k) (ents L).toList).run P w=.ok (seekFrom k L 0) w:=run_findKey hK (findNow_ents k L 0)
 cases h:seekFrom k L 0 with
 | none =>
  rw [h] at hf;rw [dropEnt_miss k L 0 h];simp [Builtin.delete_,run_underlying hT,MapKept.run_getObj_map hb,hc,hf,Result.andThen,MapKept.run_setObj_map _ hb,World.setObj']
 | some y =>
  obtain ⟨j,v⟩:=y;rw [h] at hf;obtain ⟨_,hj,_⟩:=seek_at k L 0 j v h;rw [dropEnt_hit k L 0 j v h]
  have he:(ents L).eraseIdxIfInBounds j=ents (L.eraseIdx j):=by
   have hm:∀ (l:List Ent) (n:Nat),(l.map Ent.toEntry).eraseIdx n=(l.eraseIdx n).map Ent.toEntry:=by
    intro l
    induction l with
    | nil=>intro n;rfl
    | cons a l ih=>intro n;cases n with
     | zero=>rfl
     | succ n=>simp [ih]
   unfold ents;rw [Array.eraseIdxIfInBounds_eq];simp [hm];intro hle;omega
  simp [Builtin.delete_,run_underlying hT,MapKept.run_getObj_map hb,hc,hf,Result.andThen,MapKept.run_setObj_map _ hb,World.setObj',he]
theorem run_len {T K E ty : TypeId} {r : Nat} {L : List Ent} {c : Nat} (hT : P.underlying T = some (.map K E)) (hb : w.heap[r]? = some (.map (ents L) c)) :
    (Builtin.len_ #[T] ty #[.map (some r)]).run P w=.ok (.int .i64 L.length) w:=by
 simp [Builtin.len_,run_underlying hT,MapKept.run_getObj_map hb,Result.andThen,goInt,ents]
end
open Go.RowKit
structure AEnt where
 slot:Nat
 gen:Int
 blk:Nat
 xs:List Value
 born:Nat
def AEnt.ent (e:AEnt):Ent:=⟨e.slot,.pointer (some ⟨e.blk,0,none⟩),e.born⟩
structure AR where
 a:Nat
 m:Nat
 L:List AEnt
 c:Nat
def ArenaG (ta tc:TypeId) (w:World) (R:List Nat) (p:Option Addr) (A:AR):Prop :=
 A.a≠A.m∧w.heap[A.a]?=some (.cells #[.pointer p,.map (some A.m)] ta)∧w.heap[A.m]?=some (.map (ents (A.L.map AEnt.ent)) A.c) ∧
 (A.L.map AEnt.slot).Nodup∧(A.L.map AEnt.blk).Nodup∧∀ e,e∈A.L→e.blk∉R∧w.heap[e.blk]?=some (.cells (.int .u64 e.gen::e.xs).toArray tc)
theorem val_ents (L:List AEnt) (s:Int):val? (L.map AEnt.ent) s=(L.find? fun e=>s=(e.slot:Int)).map fun e=>Value.pointer (some ⟨e.blk,0,none⟩):=by
 unfold val?
 rw [List.find?_map,Option.map_map]
 rfl
theorem find_none_of {L:List AEnt} {s:Int} (h:∀ e,e∈L→¬ s=(e.slot:Int)):val? (L.map AEnt.ent) s=none:=by
 rw [val_ents,List.find?_eq_none.2 (fun e he=>by simpa using h e he)]
 rfl
theorem find_some_of {L:List AEnt} {s:Int} {e:AEnt} (hn:(L.map AEnt.slot).Nodup) (he:e∈L) (hs:s=(e.slot:Int)):L.find? (fun e=>s=(e.slot:Int))=some e:=by
 induction L with
 | nil=>cases he
 | cons x xs ih =>
  rw [List.map_cons,List.nodup_cons] at hn;rw [List.find?_cons];rcases List.mem_cons.1 he with rfl | he'
  ·simp [hs]
  ·have hne : ¬ s = (x.slot : Int) := by
     intro h;have:x.slot=e.slot:=by omega
     exact hn.1 (by rw [this];exact List.mem_map_of_mem he')
   simp only [hne,decide_false];exact ih hn.2 he'
theorem val_some_of {L:List AEnt} {s:Int} {e:AEnt} (hn:(L.map AEnt.slot).Nodup) (he:e∈L) (hs:s=(e.slot:Int)):val? (L.map AEnt.ent) s=some (.pointer (some ⟨e.blk,0,none⟩)):=by
 rw [val_ents,find_some_of hn he hs]
 rfl
theorem drop_ents {L:List AEnt} {i:Nat} (hn:(L.map AEnt.slot).Nodup):dropEnt i (L.map AEnt.ent)=(L.filter fun e=>e.slot≠i).map AEnt.ent:=by
 induction L with
 | nil=>rfl
 | cons x xs ih =>
  rw [List.map_cons,List.nodup_cons] at hn;simp only [List.map_cons,dropEnt,AEnt.ent,Int.natCast_inj];by_cases h:i=x.slot
  ·subst h
   rw [if_pos rfl,List.filter_cons,if_neg (by simp)]
   have:xs.filter (fun e=>e.slot≠x.slot)=xs:=by
    rw [List.filter_eq_self];intro e he;have:¬ e.slot=x.slot:=fun h=>hn.1 (by rw [← h];exact List.mem_map_of_mem he)
    simpa using this
   rw [this]
  ·rw [if_neg h,List.filter_cons,if_pos (by simp;exact fun e=>h e.symm),ih hn.2]
   rfl
theorem ArenaG.snoc {ta tc : TypeId} {R : List Nat} {w : World} {p : Option Addr} {A : AR} {e : AEnt} (h : ArenaG ta tc w R p A) {w' : World} {S : List Nat} (hu : Upd S w w') (hS : ∀ k, k ∈ S → k ∈ R)
    (h1:w'.heap[A.a]?=some (.cells #[.pointer p,.map (some A.m)] ta)) (h2:w'.heap[A.m]?=some (.map (ents ((A.L++[e]).map AEnt.ent)) (A.c+1))) (hs:∀ x,x∈A.L→x.slot≠e.slot) (hb:w.heap.size≤e.blk) (hR:∀ r,r∈R→r < w.heap.size)
    (h3:w'.heap[e.blk]?=some (.cells (.int .u64 e.gen::e.xs).toArray tc)):ArenaG ta tc w' R p { A with L:=A.L++[e],c:=A.c+1 }:=by
 obtain ⟨q1,_,_,q4,q5,q6⟩:=h
 have hlt:∀ x,x∈A.L→x.blk < w.heap.size:=fun x hx=>heap_lt (q6 x hx).2
 refine ⟨q1,h1,h2,?_,?_,?_⟩
 ·rw [List.map_append,List.nodup_append]
  refine ⟨q4,by simp,?_⟩;intro a ha b hb';obtain ⟨x,hx,rfl⟩:=List.mem_map.1 ha;simp only [List.map_cons,List.map_nil,List.mem_singleton] at hb';rw [hb'];exact hs x hx
 ·rw [List.map_append,List.nodup_append]
  refine ⟨q5,by simp,?_⟩;intro a ha b hb';obtain ⟨x,hx,rfl⟩:=List.mem_map.1 ha;simp only [List.map_cons,List.map_nil,List.mem_singleton] at hb';have:=hlt x hx;omega
 ·intro x hx
  rcases List.mem_append.1 hx with hx | hx
  ·exact ⟨(q6 x hx).1,hu.heap (q6 x hx).2 (fun hk=>(q6 x hx).1 (hS _ hk))⟩
  ·simp only [List.mem_singleton] at hx
   subst hx;exact ⟨fun hk=>by have:=hR _ hk;omega,h3⟩
theorem ArenaG.filter {ta tc : TypeId} {R : List Nat} {w : World} {p : Option Addr} {A : AR} (h : ArenaG ta tc w R p A) {w' : World} {S : List Nat} (hu : Upd S w w') (hS : ∀ k, k ∈ S → k ∈ R) (f : AEnt → Bool)
    (h1:w'.heap[A.a]?=some (.cells #[.pointer p,.map (some A.m)] ta)) (h2:w'.heap[A.m]?=some (.map (ents ((A.L.filter f).map AEnt.ent)) A.c)):ArenaG ta tc w' R p { A with L:=A.L.filter f }:=by
 obtain ⟨q1,_,_,q4,q5,q6⟩:=h
 refine ⟨q1,h1,h2,?_,?_,?_⟩
 ·exact q4.sublist ((List.filter_sublist).map _)
 ·exact q5.sublist ((List.filter_sublist).map _)
 ·intro x hx
  have hx:=(List.mem_filter.1 hx).1;exact ⟨(q6 x hx).1,hu.heap (q6 x hx).2 (fun hk=>(q6 x hx).1 (hS _ hk))⟩
open Go.RowKit Go.ChangeMaps Go.MapKept
theorem perm_of_nodup {α:Type}:∀ {l m:List α},l.Nodup→m.Nodup→(∀ a,a∈l↔a∈m)→l.Perm m
 | [],[],_,_,_=>.nil
 | [],b::m,_,_,h=>by have:=(h b).2 (by simp);simp at this
 | a::l,m,hl,hm,h=>by
  obtain ⟨s,t,rfl⟩:=List.append_of_mem ((h a).1 (by simp));rw [List.nodup_cons] at hl;have hp:(s++a::t).Perm (a::(s++t)):=List.perm_middle;have hm':=hp.nodup_iff.1 hm;rw [List.nodup_cons] at hm';refine (List.Perm.cons a (perm_of_nodup hl.2 hm'.2 fun b=>?_)).trans hp.symm;constructor
  ·intro hb
   have h1:=hp.mem_iff.1 ((h b).1 (List.mem_cons_of_mem _ hb));rcases List.mem_cons.1 h1 with rfl | h1
   ·exact absurd hb hl.1
   ·exact h1
  ·intro hb
   have h1:=(h b).2 (hp.mem_iff.2 (List.mem_cons_of_mem _ hb));rcases List.mem_cons.1 h1 with rfl | h1
   ·exact absurd hb hm'.1
   ·exact h1
theorem nodup_sub_len {α:Type}:∀ {l m:List α},l.Nodup→(∀ a,a∈l→a∈m)→l.length≤m.length
 | [],_,_,_=>Nat.zero_le _
 | a::l,m,hl,h=>by
  obtain ⟨s,t,rfl⟩:=List.append_of_mem (h a (by simp));rw [List.nodup_cons] at hl
  have:=nodup_sub_len (l:=l) (m:=s++t) hl.2 fun b hb=>by
   have h1:=h b (List.mem_cons_of_mem _ hb);simp only [List.mem_append,List.mem_cons] at h1 ⊢;rcases h1 with h1 | rfl | h1
   ·exact .inl h1
   ·exact absurd hb hl.1
   ·exact .inr h1
  simp at this ⊢;omega
def Born {α:Type} (bn:α→Nat) (L:List α) (c:Nat):Prop:=(L.map bn).Nodup∧∀ x,x∈L→bn x < c
theorem Born.nil {α:Type} (bn:α→Nat) (c:Nat):Born bn ([]:List α) c:=⟨by simp,by simp⟩
theorem Born.snoc {α:Type} {bn:α→Nat} {L:List α} {c:Nat} (h:Born bn L c) (x:α) (hx:bn x=c):Born bn (L++[x]) (c+1):=by
 refine ⟨?_,fun y hy=>?_⟩
 ·rw [List.map_append,List.nodup_append]
  refine ⟨h.1,by simp,fun a ha b hb=>?_⟩;obtain ⟨y,hy,rfl⟩:=List.mem_map.1 ha;have:=h.2 y hy;simp at hb;omega
 ·rcases List.mem_append.1 hy with hy | hy
  ·have:=h.2 y hy;omega
  ·simp at hy;subst hy;omega
theorem Born.filter {α:Type} {bn:α→Nat} {L:List α} {c:Nat} (h:Born bn L c) (p:α→Bool):Born bn (L.filter p) c :=
 ⟨h.1.sublist ((List.filter_sublist).map _),fun x hx=>h.2 x (List.mem_filter.1 hx).1⟩
theorem Born.nodup {α:Type} {bn:α→Nat} {L:List α} {c:Nat} (h:Born bn L c):L.Nodup:=by
 have:=h.1
 unfold List.Nodup at this ⊢
 exact (List.pairwise_map.1 this).imp fun hne he=>hne (congrArg _ he)
theorem Born.inj {α:Type} {bn:α→Nat} {L:List α} {c:Nat} (h:Born bn L c) {x y:α} (hx:x∈L) (hy:y∈L) (he:bn x=bn y):x=y:=by
 have h1:=h.1
 revert hx hy
 clear h
 induction L with
 | nil=>intro hx;cases hx
 | cons a l ih =>
  rw [List.map_cons,List.nodup_cons] at h1;intro hx hy;rcases List.mem_cons.1 hx with hx | hx <;> rcases List.mem_cons.1 hy with hy | hy
  ·rw [hx,hy]
  ·exact absurd (by rw [← hx,he];exact List.mem_map_of_mem hy) h1.1
  ·exact absurd (by rw [← hy,← he];exact List.mem_map_of_mem hx) h1.1
  ·exact ih h1.2 hx hy
section
variable {α:Type} {mk:α→Int} {mv:α→Value} {bn:α→Nat}
def entOf (mk:α→Int) (mv:α→Value) (bn:α→Nat) (x:α):Ent:=⟨mk x,mv x,bn x⟩
structure Rg (mk:α→Int) (mv:α→Value) (bn:α→Nat) (w:World) (r m:Nat) (L:List α) (c:Nat) (S:List α):Prop where
 it:∃ seen c0,w.heap[r]?=some (.mapIter (some m) c seen c0)∧c≤c0∧∀ b,seen.contains b=true↔b∈S.map bn
 map:w.heap[m]?=some (.map (ents (L.map (entOf mk mv bn))) c)
 bd:Born bn L c
 sub:∀ x,x∈S→x∈L
 nd:S.Nodup
theorem Rg.upd {w w':World} {r m:Nat} {L S:List α} {c:Nat} {T:List Nat} (h:Rg mk mv bn w r m L c S) (hu:Upd T w w') (hr:r∉T) (hm:m∉T):Rg mk mv bn w' r m L c S:=by
 obtain ⟨seen,c0,h1,h2,h3⟩:=h.it
 exact ⟨⟨seen,c0,hu.heap h1 hr,h2,h3⟩,hu.heap h.map hm,h.bd,h.sub,h.nd⟩
theorem Rg.ne {w:World} {r m:Nat} {L S:List α} {c:Nat} (h:Rg mk mv bn w r m L c S):r≠m:=by
 obtain ⟨seen,c0,h1,_⟩:=h.it
 intro e
 subst e
 rw [h.map] at h1
 cases h1
theorem Rg.len {w:World} {r m:Nat} {L S:List α} {c:Nat} (h:Rg mk mv bn w r m L c S):S.length≤L.length:=nodup_sub_len h.nd h.sub
theorem entOf_born (L:List α):((ents (L.map (entOf mk mv bn))).toList.map (·.born))=L.map bn:=by
 simp [ents,entOf,Ent.toEntry]
theorem mem_entOf {L:List α} {e:MapEntry} (h:e∈(ents (L.map (entOf mk mv bn))).toList):∃ x,x∈L∧e={ key:=.int .i64 (mk x),val:=mv x,born:=bn x }:=by
 simp [ents,entOf,Ent.toEntry] at h
 obtain ⟨x,hx,rfl⟩:=h
 exact ⟨x,hx,rfl⟩
theorem entOf_mem {L:List α} {x:α} (h:x∈L):({ key:=.int .i64 (mk x),val:=mv x,born:=bn x }:MapEntry)∈(ents (L.map (entOf mk mv bn))).toList:=by
 simp [ents,entOf,Ent.toEntry]
 exact ⟨x,h,rfl,rfl,rfl⟩
theorem Rg.start {w:World} {m:Nat} {L:List α} {c:Nat} (hb:w.heap[m]?=some (.map (ents (L.map (entOf mk mv bn))) c)) (hbd:Born bn L c):Rg mk mv bn (w.alloc (.mapIter (some m) c #[] c)) w.heap.size m L c [] :=
 ⟨⟨#[],c,heap_alloc_new _ _,Nat.le_refl _,by simp⟩,heap_alloc_old _ hb,hbd,by simp,by simp⟩
theorem Rg.next {P : Program} {w : World} {r m : Nat} {L S : List α} {c : Nat} (h : Rg mk mv bn w r m L c S) (ty : TypeId) :
    (S.Perm L∧(Instr.next (.pointer (some ⟨r,0,none⟩)) false ty).run P w=.ok (.tuple #[.bool false]) w) ∨
    ∃ (x:α) (w':World),x∈L∧x∉S∧(Instr.next (.pointer (some ⟨r,0,none⟩)) false ty).run P w=.ok (.tuple #[.bool true,.int .i64 (mk x),mv x]) w'∧Rg mk mv bn w' r m L c (S++[x])∧Upd [r] w w'∧w'.heap.size=w.heap.size ∧
     (Instr.entry (.pointer (some ⟨r,0,none⟩))).run P w'=.ok (.tuple #[.int .i64 (mk x),mv x]) w':=by
 have hne:=h.ne
 obtain ⟨seen,c0,hr,hc,hs⟩:=h.it
 have hold:∀ e∈(ents (L.map (entOf mk mv bn))).toList,e.born < c:=fun e he=>by
  obtain ⟨x,hx,rfl⟩:=mem_entOf he;exact h.bd.2 x hx
 rcases run_next_at (P:=P) w ty r m c c0 seen _ c hr h.map hold hc with ⟨h0,hrun⟩ | ⟨e,he,w1,hal,hrun⟩
 ·refine .inl ⟨perm_of_nodup h.nd h.bd.nodup fun x=>⟨h.sub x,fun hx=>?_⟩,hrun⟩
  have h1:=(hs (bn x)).1 (all_seen _ seen h0 _ (entOf_mem hx));obtain ⟨y,hy,hyx⟩:=List.mem_map.1 h1;rw [h.bd.inj hx (h.sub y hy) hyx.symm];exact hy
 ·obtain ⟨hem,hes⟩:=mem_left he
  obtain ⟨x,hx,rfl⟩:=mem_entOf hem
  have hxS:x∉S:=fun hxs=>by
   have:=(hs (bn x)).2 (List.mem_map_of_mem hxs);rw [this] at hes
   cases hes
  have hr1:w1.heap[r]?=some (.mapIter (some m) c seen c0):=by rcases hal with rfl | rfl <;> exact hr
  have hm1:w1.heap[m]?=some (.map (ents (L.map (entOf mk mv bn))) c):=by rcases hal with rfl | rfl <;> exact h.map
  have hset:=heap_set (o':=.mapIter (some m) c (seen.push (bn x)) c) hr1;have hm':=(hset.2 m (fun e1=>hne e1.symm)).trans hm1;refine .inr ⟨x,_,hx,hxS,hrun,⟨⟨_,c,hset.1,Nat.le_refl _,fun b=>?_⟩,hm',h.bd,fun y hy=>?_,?_⟩,?_,?_,?_⟩
  ·rw [contains_push,Bool.or_eq_true,hs b,beq_iff_eq]
   simp
  ·rcases List.mem_append.1 hy with hy | hy
   ·exact h.sub y hy
   ·simp at hy;subst hy;exact hx
  ·rw [List.nodup_append]
   refine ⟨h.nd,by simp,fun a ha b hb=>?_⟩;simp at hb;subst hb;intro e1;subst e1;exact hxS ha
  ·rcases hal with rfl | rfl
   ·exact ⟨rfl,rfl,rfl,by simp [setBlock],fun k _ hk=>hset.2 k (fun e1=>hk (by simp [e1]))⟩
   ·exact ⟨rfl,rfl,rfl,by simp [setBlock],fun k _ hk=>hset.2 k (fun e1=>hk (by simp [e1]))⟩
  ·rcases hal with rfl | rfl <;> simp [setBlock]
  ·exact run_entry_at _ r m c seen _ c _ hset.1 hm' hem (by rw [entOf_born];exact h.bd.1)
variable {P:Program} (w:World) {ops:Array Oper} {rest:List Oper} {o:Oper} {a:Act} {Q:Exit→Act→World→Prop}
theorem wpList_range_ents (hg : o.guard = none) (mo : Operand) (t : TypeId) (hop : o.op = Op.range t mo) (k e : TypeId) (ht : P.underlying t = some (.map k e)) (m : Nat) (L : List α) (c : Nat)
    (hm:a.eval mo=.map (some m)) (hb:w.heap[m]?=some (.map (ents (L.map (entOf mk mv bn))) c)) (hbd:Born bn L c)
    (hK:∀ w',Rg mk mv bn w' w.heap.size m L c []→Below w.heap.size w w'→w'.heap.size=w.heap.size+1→wpList P ops Q rest (a.put o.dst (.pointer (some ⟨w.heap.size,0,none⟩))) w') :
    wpList P ops Q (o::rest) a w:=by
 refine wpList_plain hg fun K' hK'=>?_
 have hrun:=run_range_map (P:=P) w t k e m _ c ht hb
 unfold Oper.wp
 simp [execOp,hop,hm,hrun,Result.andThen]
 exact hK' _ _ (hK _ (Rg.start hb hbd) ((Below.refl _ _).alloc (Nat.le_refl _) _) (by simp))
theorem wpList_next_ents (hg : o.guard = none) (it : Operand) (hop : o.op = Op.next it false) (r m : Nat) (L S : List α) (c : Nat) (hit : a.eval it = .pointer (some ⟨r, 0, none⟩)) (h : Rg mk mv bn w r m L c S)
    (hDone:S.Perm L→wpList P ops Q rest (a.put o.dst (.tuple #[.bool false])) w)
    (hMore:∀ (x:α) (w':World),x∈L→x∉S→Rg mk mv bn w' r m L c (S++[x])→Upd [r] w w'→w'.heap.size=w.heap.size→(Instr.entry (.pointer (some ⟨r,0,none⟩))).run P w'=.ok (.tuple #[.int .i64 (mk x),mv x]) w' →
     wpList P ops Q rest (a.put o.dst (.tuple #[.bool true,.int .i64 (mk x),mv x])) w') :
    wpList P ops Q (o::rest) a w:=by
 refine wpList_plain hg fun K' hK'=>?_
 unfold Oper.wp
 rcases h.next (P:=P) o.type with ⟨h0,hrun⟩ | ⟨x,w',hx,hxS,hrun,hrg,hu,hsz,hen⟩
 ·simp [execOp,hop,hit,hrun,Result.andThen]
  exact hK' _ _ (hDone h0)
 ·simp [execOp,hop,hit,hrun,Result.andThen]
  exact hK' _ _ (hMore x w' hx hxS hrg hu hsz hen)
end
open Go.RowKit
structure Ro (w0 w:World) (ρ:Nat→Nat):Prop where
 bel:Below w0.heap.size w0 w
 old:∀ k,k < w0.heap.size→ρ k=0
 far:∀ k,w.heap.size≤k→ρ k=0
structure RU (rs:List Nat) (w w':World) (ρ ρ':Nat→Nat):Prop where
 os:w'.os=w.os
 tape:w'.tape=w.tape
 output:w'.output=w.output
 size:w.heap.size≤w'.heap.size
 block:∀ k,k < w.heap.size→ρ k∉rs→w'.heap[k]?=w.heap[k]?
 role:∀ k,k < w.heap.size→ρ' k=ρ k
 far:∀ k,w'.heap.size≤k→ρ' k=0
section
variable {w0 w w1 w2:World} {ρ ρ1 ρ2:Nat→Nat} {rs rs' S:List Nat}
theorem Ro.step (h:Ro w0 w ρ) (hu:RU rs w w1 ρ ρ1) (h0:0∉rs):Ro w0 w1 ρ1:=by
 refine ⟨h.bel.trans ⟨hu.os,hu.tape,hu.output,hu.size,fun k hk=>hu.block k (Nat.lt_of_lt_of_le hk h.bel.size) (by rw [h.old k hk];exact h0)⟩,fun k hk=>?_,hu.far⟩
 rw [hu.role k (Nat.lt_of_lt_of_le hk h.bel.size)]
 exact h.old k hk
theorem RU.refl (h:Ro w0 w ρ):RU rs w w ρ ρ:=⟨rfl,rfl,rfl,Nat.le_refl _,fun _ _ _=>rfl,fun _ _=>rfl,h.far⟩
theorem RU.trans (h:RU rs w w1 ρ ρ1) (k:RU rs w1 w2 ρ1 ρ2):RU rs w w2 ρ ρ2 :=
 ⟨k.os.trans h.os,k.tape.trans h.tape,k.output.trans h.output,Nat.le_trans h.size k.size,fun i hi hn=>(k.block i (Nat.lt_of_lt_of_le hi h.size) (by rw [h.role i hi];exact hn)).trans (h.block i hi hn),fun i hi=>(k.role i (Nat.lt_of_lt_of_le hi h.size)).trans (h.role i hi),k.far⟩
theorem RU.mono (h:RU rs w w1 ρ ρ1) (hs:∀ r,r∈rs→r∈rs'):RU rs' w w1 ρ ρ1:=⟨h.os,h.tape,h.output,h.size,fun k hk hn=>h.block k hk (fun hh=>hn (hs _ hh)),h.role,h.far⟩
theorem RU.upd (h:Ro w0 w ρ) (hu:Upd S w w1) (hS:∀ k,k∈S→k < w.heap.size→ρ k∈rs):RU rs w w1 ρ ρ :=
 ⟨hu.os,hu.tape,hu.output,hu.size,fun k hk hn=>hu.block k hk (fun hh=>hn (hS k hh hk)),fun _ _=>rfl,fun k hk=>h.far k (Nat.le_trans hu.size hk)⟩
theorem RU.below (h:Ro w0 w ρ) (hb:Below w.heap.size w w1):RU rs w w1 ρ ρ:=RU.upd h (Upd.of_below (S:=[]) hb) (by simp)
def mark (ρ:Nat→Nat) (b r:Nat) (k:Nat):Nat:=if k=b then r else ρ k
theorem mark_self {b r:Nat}:mark ρ b r b=r:=if_pos rfl
theorem mark_other {b r k:Nat} (h:k≠b):mark ρ b r k=ρ k:=if_neg h
theorem RU.mark (h:RU rs w w1 ρ ρ1) {b r:Nat} (hb:w.heap.size≤b) (hb1:b < w1.heap.size):RU rs w w1 ρ (mark ρ1 b r) :=
 ⟨h.os,h.tape,h.output,h.size,h.block,fun k hk=>by rw [mark_other (by omega)];exact h.role k hk,fun k hk=>by rw [mark_other (by omega)];exact h.far k hk⟩
theorem RU.heap (h:RU rs w w1 ρ ρ1) {b:Nat} {o:Obj} (hb:w.heap[b]?=some o) (hr:ρ b∉rs):w1.heap[b]?=some o:=by
 rw [h.block b (heap_lt hb) hr];exact hb
theorem ne_role {a b:Nat} (h:ρ a≠ρ b):a≠b:=fun e=>h (by rw [e])
end
open Go.RowKit
structure ArD where
 ta:TypeId
 tc:TypeId
 A:AR
abbrev PBk:=Option (Nat×Nat×Nat)
def paddr:PBk→Option Addr
 | none=>none
 | some q=>some ⟨q.1,0,none⟩
def PoolO (w:World) (ρ:Nat→Nat) (P:PBk) (gens:List Int) (free:List Bool):Prop:=match P with
 | none=>gens=[]∧free=[]
 | some (p,g,f)=>PoolIs w p g f gens free∧ρ p=1∧ρ g=2∧ρ f=3
structure ArI (w:World) (ρ:Nat→Nat) (P:PBk) (free:List Bool) (i:Nat) (d:ArD):Prop where
 g:ArenaG d.ta d.tc w [] (paddr P) d.A
 bn:Born AEnt.born d.A.L d.A.c
 ra:ρ d.A.a=11+3*i
 rm:ρ d.A.m=12+3*i
 th:∀ e,e∈d.A.L→ρ e.blk=10+3*i∧free[e.slot]?=some false
structure Ars (w:World) (ρ:Nat→Nat) (P:PBk) (gens:List Int) (free:List Bool) (D:List ArD):Prop where
 pool:PoolO w ρ P gens free
 ar:∀ i d,D[i]?=some d→ArI w ρ P free i d
theorem ArenaG.withR {ta tc:TypeId} {R:List Nat} {w:World} {p:Option Addr} {A:AR} (h:ArenaG ta tc w [] p A) (hR:∀ e,e∈A.L→e.blk∉R):ArenaG ta tc w R p A :=
 ⟨h.1,h.2.1,h.2.2.1,h.2.2.2.1,h.2.2.2.2.1,fun e he=>⟨hR e he,(h.2.2.2.2.2 e he).2⟩⟩
theorem ArenaG.noR {ta tc:TypeId} {R:List Nat} {w:World} {p:Option Addr} {A:AR} (h:ArenaG ta tc w R p A):ArenaG ta tc w [] p A :=
 ⟨h.1,h.2.1,h.2.2.1,h.2.2.2.1,h.2.2.2.2.1,fun e he=>⟨by simp,(h.2.2.2.2.2 e he).2⟩⟩
theorem ArenaG.ru {ta tc:TypeId} {rs:List Nat} {w w':World} {ρ ρ':Nat→Nat} {p:Option Addr} {A:AR} (h:ArenaG ta tc w [] p A) (hu:RU rs w w' ρ ρ') (ha:ρ A.a∉rs) (hm:ρ A.m∉rs) (ht:∀ e,e∈A.L→ρ e.blk∉rs):ArenaG ta tc w' [] p A :=
 ⟨h.1,hu.heap h.2.1 ha,hu.heap h.2.2.1 hm,h.2.2.2.1,h.2.2.2.2.1,fun e he=>⟨by simp,hu.heap (h.2.2.2.2.2 e he).2 (ht e he)⟩⟩
section
variable {w0 w w':World} {ρ ρ':Nat→Nat} {P:PBk} {gens gens':List Int} {free free':List Bool} {D:List ArD} {rs:List Nat} {i:Nat} {d:ArD}
theorem ArI.lts (h:ArI w ρ P free i d):d.A.a < w.heap.size∧d.A.m < w.heap.size∧∀ e,e∈d.A.L→e.blk < w.heap.size :=
 ⟨heap_lt h.g.2.1,heap_lt h.g.2.2.1,fun e he=>heap_lt (h.g.2.2.2.2.2 e he).2⟩
theorem ArI.ru (h:ArI w ρ P free i d) (hu:RU rs w w' ρ ρ') (h1:10+3*i∉rs) (h2:11+3*i∉rs) (h3:12+3*i∉rs) (hf:∀ e,e∈d.A.L→free'[e.slot]?=some false):ArI w' ρ' P free' i d:=by
 obtain ⟨l1,l2,l3⟩:=h.lts
 exact ⟨h.g.ru hu (by rw [h.ra];exact h2) (by rw [h.rm];exact h3) (fun e he=>by rw [(h.th e he).1];exact h1),h.bn,by rw [hu.role _ l1];exact h.ra,by rw [hu.role _ l2];exact h.rm,fun e he=>⟨by rw [hu.role _ (l3 e he)];exact (h.th e he).1,hf e he⟩⟩
theorem PoolO.ru (h:PoolO w ρ P gens free) (hu:RU rs w w' ρ ρ') (h1:1∉rs) (h2:2∉rs) (h3:3∉rs):PoolO w' ρ' P gens free:=by
 match P,h with
 | none,h=>exact h
 | some (p,g,f),⟨⟨a1,a2,a3,a4,a5,a6,a7,a8⟩,r1,r2,r3⟩=>exact ⟨⟨a1,a2,a3,a4,a5,hu.heap a6 (by rw [r1];exact h1),hu.heap a7 (by rw [r2];exact h2),hu.heap a8 (by rw [r3];exact h3)⟩,by rw [hu.role _ (heap_lt a6)];exact r1,by rw [hu.role _ (heap_lt a7)];exact r2,by rw [hu.role _ (heap_lt a8)];exact r3⟩
theorem Ars.ru (h:Ars w ρ P gens free D) (hu:RU rs w w' ρ ρ') (hr:∀ r,r∈rs→4≤r∧r≤9):Ars w' ρ' P gens free D:=by
 have hn:∀ r,r≤3∨10≤r→r∉rs:=fun r h1 h2=>by have:=hr r h2;omega
 refine ⟨h.pool.ru hu (hn _ (by omega)) (hn _ (by omega)) (hn _ (by omega)),fun i d hd=>?_⟩
 have:=h.ar i d hd
 exact this.ru hu (hn _ (by omega)) (hn _ (by omega)) (hn _ (by omega)) (fun e he=>(this.th e he).2)
theorem Ars.below (h:Ars w ρ P gens free D) (ho:Ro w0 w ρ) (hb:Below w.heap.size w w'):Ars w' ρ P gens free D:=h.ru (rs:=[]) (RU.below ho hb) (by simp)
theorem Ars.neq {p g f:Nat} (h:Ars w ρ (some (p,g,f)) gens free D) (hd:D[i]?=some d):d.A.a≠p∧d.A.a≠f∧d.A.a≠g∧d.A.m≠p∧d.A.m≠f∧d.A.m≠g:=by
 obtain ⟨_,r1,r2,r3⟩:=h.pool
 have:=h.ar i d hd
 refine ⟨ne_role (ρ:=ρ) ?_,ne_role (ρ:=ρ) ?_,ne_role (ρ:=ρ) ?_,ne_role (ρ:=ρ) ?_,ne_role (ρ:=ρ) ?_,ne_role (ρ:=ρ) ?_⟩
 ·rw [this.ra,r1];omega
 ·rw [this.ra,r3];omega
 ·rw [this.ra,r2];omega
 ·rw [this.rm,r1];omega
 ·rw [this.rm,r3];omega
 ·rw [this.rm,r2];omega
theorem Ars.gR {p g f:Nat} (h:Ars w ρ (some (p,g,f)) gens free D) (hd:D[i]?=some d):ArenaG d.ta d.tc w [p,g,f,d.A.m] (some ⟨p,0,none⟩) d.A:=by
 obtain ⟨_,r1,r2,r3⟩:=h.pool
 have:=h.ar i d hd
 refine this.g.withR (fun e he hh=>?_)
 have h1:=(this.th e he).1
 simp only [List.mem_cons,List.not_mem_nil,or_false] at hh
 rcases hh with hh | hh | hh | hh
 ·rw [hh,r1] at h1;omega
 ·rw [hh,r2] at h1;omega
 ·rw [hh,r3] at h1;omega
 ·rw [hh,this.rm] at h1;omega
theorem Ars.pR {p g f:Nat} (h:Ars w ρ (some (p,g,f)) gens free D) (hd:D[i]?=some d):∀ k,k∈[p,g,f,d.A.m]→ρ k∈[1,2,3,12+3*i]:=by
 obtain ⟨_,r1,r2,r3⟩:=h.pool
 have:=h.ar i d hd
 intro k hk
 simp only [List.mem_cons,List.not_mem_nil,or_false] at hk ⊢
 rcases hk with rfl | rfl | rfl | rfl
 ·exact .inl r1
 ·exact .inr (.inl r2)
 ·exact .inr (.inr (.inl r3))
 ·exact .inr (.inr (.inr this.rm))
theorem get_set {α:Type} {D:List α} {i j:Nat} {d d':α} (h:(D.set i d)[j]?=some d'):(i=j∧d'=d)∨(i≠j∧D[j]?=some d'):=by
 rw [List.getElem?_set] at h
 by_cases hij:i=j
 ·rw [if_pos hij] at h
  split at h
  ·injection h with h;exact .inl ⟨hij,h.symm⟩
  ·cases h
 ·rw [if_neg hij] at h
  exact .inr ⟨hij,h⟩
theorem idx_set' {free:List Bool} {s:Nat} (h:free[s]?=some false) (hn:true∈free):(free.set (free.idxOf true) false)[s]?=some false:=by
 rw [List.getElem?_set]
 split
 ·rename_i he
  rw [if_pos (List.idxOf_lt_length_of_mem hn)]
 ·exact h
theorem idx_ne' {free:List Bool} {s:Nat} (h:free[s]?=some false) (hn:true∈free):s≠free.idxOf true:=by
 intro he
 have i1:=List.idxOf_lt_length_of_mem hn
 have i2:free[free.idxOf true]?=some true:=by rw [List.getElem?_eq_getElem i1,List.getElem_idxOf]
 rw [he,i2] at h
 cases h
theorem Ars.alloc {p g f b : Nat} {xs : List Value} (h : Ars w ρ (some (p, g, f)) gens free D) (ho : Ro w0 w ρ) (hd : D[i]? = some d) (hn : true ∈ free)
    (hu:Upd [p,f,d.A.m] w w') (hp:PoolIs w' p g f gens (free.set (free.idxOf true) false)) (hb:w.heap.size≤b)
    (hA:ArenaG d.ta d.tc w' [p,g,f,d.A.m] (some ⟨p,0,none⟩) { d.A with L:=d.A.L++[⟨free.idxOf true,gens.getD (free.idxOf true) 0,b,xs,d.A.c⟩],c:=d.A.c+1 }) :
    Ars w' (mark ρ b (10+3*i)) (some (p,g,f)) gens (free.set (free.idxOf true) false) (D.set i { d with A:={ d.A with L:=d.A.L++[⟨free.idxOf true,gens.getD (free.idxOf true) 0,b,xs,d.A.c⟩],c:=d.A.c+1 } })∧RU [1,2,3,12+3*i] w w' ρ (mark ρ b (10+3*i)):=by
 have hb1:b < w'.heap.size:=heap_lt (hA.2.2.2.2.2 ⟨free.idxOf true,gens.getD (free.idxOf true) 0,b,xs,d.A.c⟩ (by simp)).2
 have hU:RU [1,2,3,12+3*i] w w' ρ (mark ρ b (10+3*i)):=(RU.upd ho hu (fun k hk _=>h.pR hd k (by simp at hk ⊢;rcases hk with hk | hk | hk <;> simp [hk]))).mark hb hb1
 have hi:=h.ar i d hd
 obtain ⟨l1,l2,l3⟩:=hi.lts
 obtain ⟨hpw,r1,r2,r3⟩:=h.pool
 refine ⟨⟨⟨hp,?_,?_,?_⟩,fun j d' hd'=>?_⟩,hU⟩
 ·rw [hU.role _ (heap_lt hpw.2.2.2.2.2.1)];exact r1
 ·rw [hU.role _ (heap_lt hpw.2.2.2.2.2.2.1)];exact r2
 ·rw [hU.role _ (heap_lt hpw.2.2.2.2.2.2.2)];exact r3
 ·rcases get_set hd' with ⟨rfl,rfl⟩ | ⟨hij,hd'⟩
  ·refine ⟨hA.noR,hi.bn.snoc _ rfl,by rw [hU.role _ l1];exact hi.ra,by rw [hU.role _ l2];exact hi.rm,fun e he=>?_⟩
   rcases List.mem_append.1 he with he | he
   ·exact ⟨by rw [hU.role _ (l3 e he)];exact (hi.th e he).1,idx_set' (hi.th e he).2 hn⟩
   ·simp at he;subst he
    refine ⟨mark_self,?_⟩
    show (free.set (free.idxOf true) false)[free.idxOf true]?=some false
    rw [List.getElem?_set,if_pos rfl,if_pos (List.idxOf_lt_length_of_mem hn)]
  ·have:=h.ar j d' hd'
   exact this.ru hU (by simp;omega) (by simp;omega) (by simp;omega) (fun e he=>idx_set' (this.th e he).2 hn)
theorem Ars.release {p g f : Nat} {x : AEnt} (h : Ars w ρ (some (p, g, f)) gens free D) (ho : Ro w0 w ρ) (hd : D[i]? = some d) (_hx : x ∈ d.A.L) (hsep : ∀ j d' e, j ≠ i → D[j]? = some d' → e ∈ d'.A.L → e.slot ≠ x.slot)
    (hu:Upd [p,g,f,d.A.m] w w') (hp:PoolIs w' p g f gens' (free.set x.slot true)) (hA:ArenaG d.ta d.tc w' [p,g,f,d.A.m] (some ⟨p,0,none⟩) { d.A with L:=d.A.L.filter fun e=>e.slot≠x.slot }) :
    Ars w' ρ (some (p,g,f)) gens' (free.set x.slot true) (D.set i { d with A:={ d.A with L:=d.A.L.filter fun e=>e.slot≠x.slot } })∧RU [1,2,3,12+3*i] w w' ρ ρ:=by
 have hU:RU [1,2,3,12+3*i] w w' ρ ρ:=RU.upd ho hu (fun k hk _=>h.pR hd k hk)
 have hi:=h.ar i d hd
 obtain ⟨hpw,r1,r2,r3⟩:=h.pool
 have hset:∀ s:Nat,s≠x.slot→free[s]?=some false→(free.set x.slot true)[s]?=some false:=fun s hs hf=>by
  rw [List.getElem?_set,if_neg (fun e=>hs e.symm)];exact hf
 refine ⟨⟨⟨hp,r1,r2,r3⟩,fun j d' hd'=>?_⟩,hU⟩
 rcases get_set hd' with ⟨rfl,rfl⟩ | ⟨hij,hd'⟩
 ·refine ⟨hA.noR,hi.bn.filter _,hi.ra,hi.rm,fun e he=>?_⟩
  have he':=List.mem_filter.1 he;exact ⟨(hi.th e he'.1).1,hset _ (by simpa using he'.2) (hi.th e he'.1).2⟩
 ·have:=h.ar j d' hd'
  exact this.ru hU (by simp;omega) (by simp;omega) (by simp;omega) (fun e he=>hset _ (hsep j d' e (fun hh=>hij hh.symm) hd' he) (this.th e he).2)
theorem Ars.write {x : AEnt} {xs : List Value} (h : Ars w ρ P gens free D) (ho : Ro w0 w ρ) (hd : D[i]? = some d) (hx : x ∈ d.A.L)
    (hu:Upd [x.blk] w w') (hb:w'.heap[x.blk]?=some (.cells (.int .u64 x.gen::xs).toArray d.tc)) :
    Ars w' ρ P gens free (D.set i { d with A:={ d.A with L:=d.A.L.map fun e=>if e.slot=x.slot then { e with xs:=xs } else e } })∧RU [10+3*i] w w' ρ ρ:=by
 have hi:=h.ar i d hd
 have hU:RU [10+3*i] w w' ρ ρ:=RU.upd ho hu (fun k hk _=>by simp at hk;subst hk;simp [(hi.th x hx).1])
 obtain ⟨g1,g2,g3,g4,g5,g6⟩:=hi.g
 have huniq:∀ e,e∈d.A.L→e.slot=x.slot→e=x:=fun e he hs=>by
  rcases List.mem_iff_getElem?.1 he with ⟨j,hj⟩;rcases List.mem_iff_getElem?.1 hx with ⟨k,hk⟩;have h1:(d.A.L.map AEnt.slot)[j]?=some x.slot:=by rw [List.getElem?_map,hj];simp [hs]
  have h2:(d.A.L.map AEnt.slot)[k]?=some x.slot:=by rw [List.getElem?_map,hk];rfl
  have:=(List.getElem?_inj (List.getElem?_eq_some_iff.1 h1).1 g4).1 (h1.trans h2.symm);subst this;rw [hj] at hk;injection hk
 have hslots:((d.A.L.map fun e=>if e.slot=x.slot then { e with xs:=xs } else e).map AEnt.slot)=d.A.L.map AEnt.slot:=by
  rw [List.map_map];refine List.map_congr_left fun e _=>?_
  simp only [Function.comp];split <;> rfl
 have hblks:((d.A.L.map fun e=>if e.slot=x.slot then { e with xs:=xs } else e).map AEnt.blk)=d.A.L.map AEnt.blk:=by
  rw [List.map_map];refine List.map_congr_left fun e _=>?_
  simp only [Function.comp];split <;> rfl
 have hborn:((d.A.L.map fun e=>if e.slot=x.slot then { e with xs:=xs } else e).map AEnt.born)=d.A.L.map AEnt.born:=by
  rw [List.map_map];refine List.map_congr_left fun e _=>?_
  simp only [Function.comp];split <;> rfl
 have hents:((d.A.L.map fun e=>if e.slot=x.slot then { e with xs:=xs } else e).map AEnt.ent)=d.A.L.map AEnt.ent:=by
  rw [List.map_map];refine List.map_congr_left fun e _=>?_
  simp only [Function.comp];split <;> rfl
 refine ⟨⟨h.pool.ru hU (by simp;omega) (by simp;omega) (by simp;omega),fun j d' hd'=>?_⟩,hU⟩
 rcases get_set hd' with ⟨rfl,rfl⟩ | ⟨hij,hd'⟩
 ·refine ⟨⟨g1,hU.heap g2 (by rw [hi.ra];simp),by rw [hents];exact hU.heap g3 (by rw [hi.rm];simp),by rw [hslots];exact g4,by rw [hblks];exact g5,fun e he=>⟨by simp,?_⟩⟩,⟨by rw [hborn];exact hi.bn.1,fun e he=>?_⟩,hi.ra,hi.rm,fun e he=>?_⟩
  ·obtain ⟨e0,he0,rfl⟩:=List.mem_map.1 he
   split
   ·rename_i hs
    rw [huniq e0 he0 hs];exact hb
   ·rename_i hs
    refine hu.heap (g6 e0 he0).2 (fun hh=>?_);simp at hh;rcases List.mem_iff_getElem?.1 he0 with ⟨j,hj⟩;rcases List.mem_iff_getElem?.1 hx with ⟨k,hk⟩;have h1:(d.A.L.map AEnt.blk)[j]?=some x.blk:=by rw [List.getElem?_map,hj];simp [hh]
    have h2:(d.A.L.map AEnt.blk)[k]?=some x.blk:=by rw [List.getElem?_map,hk];rfl
    have:=(List.getElem?_inj (List.getElem?_eq_some_iff.1 h1).1 g5).1 (h1.trans h2.symm);subst this;rw [hj] at hk;injection hk with hk;exact hs (by rw [hk])
  ·obtain ⟨e0,he0,rfl⟩:=List.mem_map.1 he
   have:=hi.bn.2 e0 he0;split <;> exact this
  ·obtain ⟨e0,he0,rfl⟩:=List.mem_map.1 he
   have:=hi.th e0 he0;split <;> exact this
 ·have:=h.ar j d' hd'
  exact this.ru hU (by simp;omega) (by simp;omega) (by simp;omega) (fun e he=>(this.th e he).2)
theorem Ars.new (h : Ars w ρ P gens free D) (ho : Ro w0 w ρ) (hb : Below w.heap.size w w') (hs : w'.heap.size = w.heap.size + 2) {ta tc : TypeId} (hA : ArenaG ta tc w' [] (paddr P) ⟨w.heap.size + 1, w.heap.size, [], 0⟩) :
    Ars w' (mark (mark ρ (w.heap.size+1) (11+3*D.length)) w.heap.size (12+3*D.length)) P gens free (D++[⟨ta,tc,⟨w.heap.size+1,w.heap.size,[],0⟩⟩]) ∧
     RU [] w w' ρ (mark (mark ρ (w.heap.size+1) (11+3*D.length)) w.heap.size (12+3*D.length)):=by
 have hU:RU [] w w' ρ (mark (mark ρ (w.heap.size+1) (11+3*D.length)) w.heap.size (12+3*D.length)):=((RU.below ho hb).mark (by omega) (by omega)).mark (Nat.le_refl _) (by omega)
 have h1:=h.ru hU (by simp)
 refine ⟨⟨h1.pool,fun j d' hd'=>?_⟩,hU⟩
 by_cases hj:j < D.length
 ·rw [List.getElem?_append_left hj] at hd'
  exact h1.ar j d' hd'
 ·rw [List.getElem?_append_right (by omega)] at hd'
  rcases hk:j - D.length with _ | k
  ·rw [hk] at hd'
   simp at hd';subst hd';have hjl:j=D.length:=by omega
   subst hjl;exact ⟨hA,Born.nil _ _,by rw [mark_other (by show w.heap.size+1≠_;omega)];exact mark_self,mark_self,by simp⟩
  ·rw [hk] at hd';simp at hd'
end
open Go
def seg (a:Array Value) (off:Nat) (c:List Value):Array Value:=(a.toList.take off++c++a.toList.drop (off+c.length)).toArray
theorem fold_seg : ∀ (l : List Value) (k off : Nat) (a : Array Value), off + k + l.length ≤ a.size →
    (l.zipIdx k).foldl (fun cs (x:Value×Nat)=>cs.setIfInBounds (off+x.2) x.1) a=seg a (off+k) l
 | [],k,off,a,_=>by
  unfold seg;simp
 | v::l,k,off,a,h=>by
  rw [List.zipIdx_cons,List.foldl_cons,fold_seg l (k+1) off (a.setIfInBounds (off+k) v) (by simp at h ⊢;omega)];unfold seg
  congr 1
  simp only [Array.toList_setIfInBounds,List.length_cons];have h':off+k < a.toList.length:=by simp at h ⊢;omega
  rw [List.drop_set_of_lt (by omega),show off+(k+1)=off+k+1 by omega,List.take_succ_eq_append_getElem (by rw [List.length_set];exact h'),List.take_set_of_le (Nat.le_refl _),List.getElem_set_self];simp [Nat.add_assoc,Nat.add_comm l.length 1]
theorem seg_size {a:Array Value} {off:Nat} {c:List Value} (h:off+c.length≤a.size):(seg a off c).size=a.size:=by
 unfold seg
 simp only [List.size_toArray,List.length_append,List.length_take,List.length_drop,Array.length_toList]
 omega
theorem fill_cons {place : Nat → Option (Nat × Nat)} {a : Array Value} {i off size : Nat} {v : Value} {c : List Value} {rest : List (Nat × Value)} (hp : place i = some (off, size)) (hv : v.cells = c.toArray) (hs : c.length = size) (ha : off + size ≤ a.size) :
    Instr.fill place a ((i,v)::rest)=Instr.fill place (seg a off c) rest:=by
 conv=>lhs;unfold Instr.fill
 rw [hp]
 simp only
 rw [hv]
 have e:(c.toArray.size≠size || off+c.toArray.size > a.size)=false:=by
  simp only [List.size_toArray,hs,ne_eq,not_true_eq_false,decide_false,Bool.false_or,decide_eq_false_iff_not];omega
 rw [if_neg (by rw [e];simp)]
 congr 1
 have:=fold_seg c 0 off a (by omega)
 rw [Nat.add_zero] at this
 rw [← this]
 congr 1
 simp
def bplaces (P:Program) (t:TypeId):Option (Array Value×List (Nat×Nat)) :=
 match P.info? t,P.underlying t with
 | some it,some (.struct fields) =>
  match it.zero,fields.toList.mapM (fun f=>(P.info? f.type).map fun i=>(f.offset,i.size)) with
  | some z,some places=>some (z.cells,places)
  | _,_=>none
 | _,_=>none
theorem built_of {P:Program} {t:TypeId} {z:Array Value} {places:List (Nat×Nat)} (h:bplaces P t=some (z,places)) (parts:List (Nat×Value)):P.built t parts=Instr.fill (places.toArray[·]?) z parts:=by
 unfold bplaces at h
 unfold Program.built
 split at h
 ·rename_i it fields h1 h2
  rw [h1,h2];simp only;split at h
  ·rename_i z' p' h3 h4
   injection h with h;injection h with h5 h6;rw [h3,h4,← h5,← h6]
  ·cases h
 ·cases h
theorem yieldsIf_build {P : Program} {ops : Array Oper} {S : World → Prop} {op : Oper} {a : Act} (hw : Region.wanted op (yielded ops a.tmps) = true) (t : TypeId) (parts : Array (Nat × Operand)) (ho : op.op = .build t parts) (vals : List (Nat × Value)) (hv : parts.toList.map (fun x => (x.1, a.eval x.2)) = vals) (cells : Array Value)
    (hb:P.built t vals=some cells):YieldsIf P ops S op (.agg cells) a :=
 .inl ⟨hw,fun w _=>by
  have hb':P.built t (parts.map fun (i,x)=>(i,a.eval x)).toList=some cells:=by rw [Array.toList_map];exact hv ▸ hb
  unfold execOp;simp only [ho,Sem.run_bind,run_build w t _ cells hb',Result.andThen_ok]
  rfl⟩
theorem wpList_built {P : Program} {ops : Array Oper} {rest : List Oper} {op : Oper} {a : Act} {w : World} {Q : Exit → Act → World → Prop} (hgd : op.guard = none) (t : TypeId) (parts : Array (Nat × Operand)) (ho : op.op = .build t parts) (vals : List (Nat × Value)) (hv : parts.toList.map (fun x => (x.1, a.eval x.2)) = vals) (cells : Array Value)
    (hb:P.built t vals=some cells) (h:wpList P ops Q rest (a.put op.dst (.agg cells)) w):wpList P ops Q (op::rest) a w :=
 wpList_plain hgd fun _ hK=>by
  have hb':P.built t (parts.map fun (i,x)=>(i,a.eval x)).toList=some cells:=by rw [Array.toList_map];exact hv ▸ hb
  unfold Oper.wp execOp;simp only [ho,Sem.run_bind,run_build w t _ cells hb',Result.andThen_ok];exact hK _ _ h
theorem fill_nil {place:Nat→Option (Nat×Nat)} {a:Array Value}:Instr.fill place a []=some a:=rfl
end Go.Proofs.YtbdealmkmpnpoaaGreat
