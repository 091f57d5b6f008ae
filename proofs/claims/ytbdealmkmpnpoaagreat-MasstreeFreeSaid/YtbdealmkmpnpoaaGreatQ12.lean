import Derived.Laws.MakeOwn
import Derived.Lib.SliceRun
import Derived.Deep.RegionLaw
import Derived.Test.YtbdealmkmpnpoaaGreatQ01
import Derived.Test.YtbdealmkmpnpoaaGreatQ02
import Derived.Test.YtbdealmkmpnpoaaGreatQ03
import Derived.Test.YtbdealmkmpnpoaaGreatQ04
import Derived.Test.YtbdealmkmpnpoaaGreatQ05
import Derived.Test.YtbdealmkmpnpoaaGreatQ06
import Derived.Test.YtbdealmkmpnpoaaGreatQ07
import Derived.Test.YtbdealmkmpnpoaaGreatQ08
import Derived.Test.YtbdealmkmpnpoaaGreatQ09
import Derived.Test.YtbdealmkmpnpoaaGreatQ10
import Derived.Test.YtbdealmkmpnpoaaGreatQ11
set_option linter.all false
namespace Go.Proofs.YtbdealmkmpnpoaaGreat.M
open Go.RowKit
structure MTw (w0 w:World) (T:TS) (Y:List Ly) (C:Cont Str) (k pt:Nat):Prop where
 mf:MF w0 w T (flat Y)
 wy:WY Y (Y.length+k) pt
 ct:MCt Y C
 ro:∃ l F',Y=l::F'∧l.r=T.r
 ly:T.ly=Y.length
 n:T.n=C.length
section
variable {β:Type}
theorem flat_one {Ls:List (Lev β)} {j:Nat} {A B:Lev β} {x:Hd} {n:BN β} (h:Ls[j]?=some (A++(x,n)::B)):∃ R,Ls.flatten.Perm ((x,n)::R)∧∀ n',(Ls.set j (A++(x,n')::B)).flatten.Perm ((x,n')::R):=by
 have hp:∀ n',∃ X Y,(Ls.set j (A++(x,n')::B)).flatten=X++(A++(x,n')::B)++Y∧Ls.flatten=X++(A++(x,n)::B)++Y:=fun n'=>by
  obtain ⟨X,Y,e1,e2⟩:=lev_set (S':=A++(x,n')::B) h;exact ⟨X,Y,e2,e1⟩
 obtain ⟨hj,e⟩:=List.getElem?_eq_some_iff.1 h
 have e1:Ls.flatten=(Ls.take j).flatten++(A++(x,n)::B)++(Ls.drop (j+1)).flatten:=by
  conv=>lhs;rw [← List.take_append_drop j Ls,List.drop_eq_getElem_cons hj,e]
  simp
 have e2:∀ n',(Ls.set j (A++(x,n')::B)).flatten=(Ls.take j).flatten++(A++(x,n')::B)++(Ls.drop (j+1)).flatten:=fun n'=>by
  rw [List.set_eq_take_append_cons_drop,if_pos hj];simp
 have e3:∀ n',((Ls.take j).flatten++(A++(x,n')::B)++(Ls.drop (j+1)).flatten).Perm ((x,n')::((Ls.take j).flatten++A++(B++(Ls.drop (j+1)).flatten))):=fun n'=>by
  have:(Ls.take j).flatten++(A++(x,n')::B)++(Ls.drop (j+1)).flatten=((Ls.take j).flatten++A)++(x,n')::(B++(Ls.drop (j+1)).flatten):=by simp
  rw [this];exact List.perm_middle
 exact ⟨_,by rw [e1];exact e3 n,fun n'=>by rw [e2];exact e3 n'⟩
end
section
variable {w0 w w':World} {T T':TS} {Y:List Ly} {C:Cont Str} {k pt:Nat} {l l1:Ly} {r:Hd}
theorem MTw.yl (h:MTw w0 w T Y C k pt):16*(Y.length - 1)≤pt:=by
 have:=h.wy.wb.pot
 unfold M.pot at this
 omega
theorem MTw.tr (h:MTw w0 w T Y C k pt) (hk:k≤1000) (hpt:pt≤100000):MTr w0 w T Y C:=by
 have h1:=h.yl
 have hs:SaneY Y:=h.wy.wb.sane h.wy.ok (h.mf.nd) (by omega) (by omega)
 exact ⟨h.mf.am,hs,h.ct,h.ro,h.mf.fl,h.mf.kd,h.ly,h.n⟩
theorem MTw.hgt (h:MTw w0 w T Y C k pt) (hk:k≤1000) (hpt:pt≤100000) (hl:l∈Y):l.Ls.length≤14:=by
 have h1:=h.yl
 obtain ⟨_,h2,_⟩:=(h.wy.ok.tow l hl).size (h.wy.wb.thk l hl)
 have h3:=le_lvs hl
 have h4:=h.wy.wb.lv
 have:l.Ls.length - 1 < 14:=(Nat.pow_lt_pow_iff_right (a:=2) (by omega)).1 (by omega)
 omega
theorem MTw.on (h:MTw w0 w T Y C k pt) (hA:AM w0 w' T):MTw w0 w' T Y C k pt:=⟨h.mf.on hA,h.wy,h.ct,h.ro,h.ly,h.n⟩
theorem root_turn {F':List Ly} {l0:Ly} (e:Y=l0::F'):∃ F2,turnL Y l l1=(if l0.pre=l.pre then l1 else l0)::F2:=by rw [e];exact ⟨_,rfl⟩
theorem flat_at (h:MOK Y) (hl:l∈Y):(flat Y).Perm (l.Ls.flatten++flat (rest1 Y l)):=flat_self h.pre hl
theorem MTr.leafAt (h : MTr w0 w T Y C) (hl : l ∈ Y) (km : Str) : ∃ (R0 : Lev Sl) (x1 : Hd) (nd : ND) (q : Nat) (f : LF), l.Ls[0]? = some R0 ∧ atK R0 km = some (x1, f.bn) ∧ (x1, nd) ∈ T.F ∧ EntAt T x1 q ∧ nd.cs = .bool true :: (lfc f ++ zic) ∧ nd.bn = f.bn ∧ LFOK f ∧ (pathOf l.Ls km)[l.Ls.length - 1]? = some x1 ∧
    M.cget (content l.Ls) km=(if hasK km f.bn.keys then f.bn.vals[cut km f.bn.keys]? else none)∧(x1,f.bn)∈l.Ls.flatten:=by
 have htw:=h.sane.ok.tow l hl
 obtain ⟨x0,hx0⟩:=htw.top
 have hlen0:=(List.getElem?_eq_some_iff.1 hx0).1
 obtain ⟨R0,hR⟩:∃ R,l.Ls[0]?=some R:=⟨_,List.getElem?_eq_getElem (by omega)⟩
 obtain ⟨⟨x1,xn⟩,hx⟩:=htw.at hR km
 have hpg:=pathOf_get hR hx
 obtain ⟨_,hlf,hget⟩:=htw.get hR hx
 have hmem:=mem_flat hR (atK_mem hx).1
 obtain ⟨e,nd,hnF,hbn,_,_,_,_,hseen,_⟩:=h.node (x:=(x1,xn)) (List.mem_flatMap.2 ⟨l,hl,hmem⟩)
 simp only at hbn hlf hget hpg
 obtain ⟨q,hq,_⟩:=h.am.getE hnF
 rcases hseen.cases with ⟨f,s1,s2,s3,s4⟩ | ⟨s1,_⟩
 ·have e:xn=f.bn:=hbn.symm.trans s1
  subst e;exact ⟨R0,x1,nd,q,f,hR,hx,hnF,hq,s4,s1,s3,hpg,hget,hmem⟩
 ·rw [hbn,hlf] at s1;cases s1
theorem UpAt.ok (h : MOK Y) {i : Nat} {up : Hd} {mk : Mk} (hup : UpAt Y l i up mk) (hi : i ≠ 0) : ∃ (lp : Ly) (sp : Sl) (nlp : BN Sl) (A B : Lev Sl), lp ∈ Y ∧ M.cget (content lp.Ls) (mT sp.m) = some sp ∧ sp.deep = true ∧ l.pre = lp.pre ++ ube 8 sp.m.s ∧ mk = sp.m ∧ lp.pre ≠ l.pre ∧
    lp.Ls[0]?=some (A++(up,nlp)::B)∧atK (A++(up,nlp)::B) (mT sp.m)=some (up,nlp)∧nlp.leaf=true∧nlp.covers (mT mk)=true∧hasK (mT mk) nlp.keys=true∧MkOK mk∧mk.c=9∧sp.rest=s0∧sp.val=s0:=by
 rcases hup with h0 | ⟨lp,sp,h1,h2,h3,h4,h5,h6⟩
 ·exact absurd h0 hi
 ·have htw:=h.tow lp h1
  obtain ⟨x0,hx0⟩:=htw.top;have hlen0:=(List.getElem?_eq_some_iff.1 hx0).1;obtain ⟨R0,hR⟩:∃ R,lp.Ls[0]?=some R:=⟨_,List.getElem?_eq_getElem (by omega)⟩;obtain ⟨⟨x1,xn⟩,hx⟩:=htw.at hR (mT sp.m);obtain ⟨_,hlf,hget⟩:=htw.get hR hx;have hin:=(h.cget h1).1 h2;obtain ⟨_,hso⟩:=h.key lp h1 _ hin;obtain ⟨A,B,e,hcv,_⟩:=atK_split hx;have e1:up=x1:=by rw [h6,List.getD_eq_getElem?_getD,hR];exact hdl_of hx
  subst e1 e h5
  have hk:hasK (mT sp.m) xn.keys=true:=by
   rw [h2] at hget
   cases hh:hasK (mT sp.m) xn.keys
   ·simp only [hh] at hget;cases hget
   ·rfl
  obtain ⟨d1,d2,d3⟩:=hso.dp h3;refine ⟨lp,sp,xn,A,B,h1,h2,h3,h4,rfl,fun e=>?_,hR,hx,hlf,hcv,hk,hso.m,d1,d2,d3⟩;have:=congrArg List.length (e.trans h4);rw [List.length_append,ube_len] at this;omega
theorem UpAt.upOK (h:MOK Y) {i:Nat} {up:Hd} {mk:Mk} (hup:UpAt Y l i up mk) (hi:i≠0):UpOK (flat (rest1 Y l)) up mk:=by
 obtain ⟨lp,sp,nlp,A,B,h1,h2,h3,h4,h5,h6,h7,h8,h9,h10,h11,h12,h13,h14,h15⟩:=hup.ok h hi
 have hm:(up,nlp)∈flat (rest1 Y l):=List.mem_flatMap.2 ⟨lp,List.mem_filter.2 ⟨h1,by simpa using h6⟩,mem_flat h7 (by simp)⟩
 obtain ⟨X,Z,e⟩:=List.append_of_mem hm
 exact ⟨nlp,X++Z,by rw [e];exact List.perm_middle,h9,h10,h11,h12,h13⟩
end
section
variable {w0 w w1 w':World} {T T':TS} {Y:List Ly} {C:Cont Str} {k pt:Nat} {l:Ly} {key v:Str} {i:Nat} {up:Hd} {mk:Mk}
def PutY (Y Y':List Ly) (key:Str):Prop :=
 ((∀ l,l∈Y→Fat l.Ls)→∀ l,l∈Y'→Fat l.Ls) ∧
 (Y'.map (·.pre)=Y.map (·.pre)∨∃ i l so v hs,On Y key i l∧M.cget (content l.Ls) (mT (mkAt key i))=some so∧so.deep=false∧bl so.rest≠keyAt key (i+1)∧hs.length=alk (bl so.rest) (keyAt key (i+1))+1 ∧
  Y'.map (·.pre)=Y.map (·.pre)++(bothN (l.pre++ube 8 so.m.s) (bl so.rest) (keyAt key (i+1)) so.val v hs).map (·.pre))
theorem fat_turn {l0 l1:Ly} (hl:l0∈Y) (h1:Fat l0.Ls→Fat l1.Ls) (h:∀ l,l∈Y→Fat l.Ls):∀ l,l∈turnL Y l0 l1→Fat l.Ls:=fun z hz=>by
 rcases (turnL_mem hl z).1 hz with rfl | ⟨h2,_⟩
 ·exact h1 (h l0 hl)
 ·exact h z h2
theorem bothN_one:∀ (hs:List Hd) (p a b:Byt) (v w:Str),∀ l,l∈bothN p a b v w hs→l.Ls.length=1
 | [],_,_,_,_,_,_,h=>by cases h
 | [h0],p,a,b,v,w,l,h=>by
  unfold bothN at h;simp only [List.mem_cons,List.not_mem_nil,or_false] at h;rw [h];rfl
 | h0::h1::hs,p,a,b,v,w,l,h=>by
  unfold bothN at h;rcases List.mem_cons.1 h with h | h
  ·rw [h];rfl
  ·exact bothN_one (h1::hs) _ _ _ _ _ l h
def PutL (w0 w:World) (T:TS) (Y:List Ly) (C:Cont Str) (k pt:Nat) (key v:Str) (w':World):Prop :=
 ∃ (T':TS) (Y':List Ly),MF w0 w' T' (flat Y')∧WY Y' (Y'.length+(k+1)) (pt+key.size)∧MCt Y' (cput C key v)∧(∃ l F',Y'=l::F'∧l.r=T'.r)∧T'.ly=Y'.length∧T'.n=T.n∧TEv w w' T T'∧EvoY Y Y'∧PutY Y Y' key
theorem SetF.put (h : MTw w0 w1 T Y C k pt) (ho : On Y key i l) (hup : UpAt Y l i up mk) (hold : ∀ so, M.cget (content l.Ls) (mT (slOf (keyAt key i) v).m) = some so → so.deep = false ∧ so.rest = (slOf (keyAt key i) v).rest)
    (hS:SetF w0 w T l.Ls (cput (content l.Ls) (mT (slOf (keyAt key i) v).m) (slOf (keyAt key i) v)) l.r (flat (rest1 Y l)) i up mk w'):PutL w0 w T Y C k pt key v w':=by
 obtain ⟨T',Ls',r',hE,hn,hly,⟨hL,hfat⟩,hc⟩:=hS
 have hM:=h.wy.ok
 obtain ⟨l0,F',hY,hr⟩:=h.ro
 have hlv:Y.length+k+1=Y.length+(k+1):=by omega
 rcases hc with ⟨rfl,h1,h2⟩ | ⟨rfl,h1,h2⟩ | ⟨hi,h1,nlp',Z',hZ,_,h2⟩
 ·obtain ⟨a,b,c⟩:=h.wy.put h.ct ho hold hL
  refine ⟨T',_,h2.perm (flat_turn (l1:=⟨l.pre,Ls',l.r⟩) hM.pre ho.mem).symm,?_,b,?_,by rw [turnL_len];exact hly.trans h.ly,hn,hE,c,fat_turn ho.mem hfat,.inl (turnL_pre rfl)⟩
  ·rw [turnL_len,← hlv];exact a
  ·obtain ⟨F2,e⟩:=root_turn (l:=l) (l1:=⟨l.pre,Ls',l.r⟩) hY
   refine ⟨_,F2,e,?_⟩;rw [h1,← hr];split
   ·rename_i e2
    show l.r=l0.r
    rw [hM.uniq ho.mem (by rw [hY];simp) e2.symm]
   ·rfl
 ·obtain ⟨a,b,c⟩:=h.wy.putR h.ct ho hold hL
  refine ⟨T',_,h2.perm (flat_turn (l1:=⟨l.pre,Ls',r'⟩) hM.pre ho.mem).symm,?_,b,?_,by rw [turnL_len];exact hly.trans h.ly,hn,hE,c,fat_turn ho.mem hfat,.inl (turnL_pre rfl)⟩
  ·rw [turnL_len,← hlv];exact a
  ·obtain ⟨F2,e⟩:=root_turn (l:=l) (l1:=⟨l.pre,Ls',r'⟩) hY
   refine ⟨_,F2,e,?_⟩
   have e0:l0.pre=l.pre:=by
    obtain ⟨a0,F0,e3,e4⟩:=hM.root;rw [hY] at e3;injection e3 with e3 _;rw [e3,e4,ho.pre];rfl
   rw [if_pos e0,h1]
 ·obtain ⟨lp,sp,nlp,A,B,g1,g2,g3,g4,g5,g6,g7,g8,g9,g10,g11,g12,g13,g14,g15⟩:=hup.ok hM hi
  subst g5;have hpm:=flat_at hM ho.mem
  have e1:nlp=nlp':=by
   have hnd:=h.mf.nd;have hm1:(up,nlp')∈flat Y:=hpm.mem_iff.2 (List.mem_append_right _ (hZ.mem_iff.2 (List.mem_cons_self ..)));have hm2:(up,nlp)∈flat Y:=List.mem_flatMap.2 ⟨lp,g1,mem_flat g7 (by simp)⟩;have:=nd_inj (f:=fun z:Hd×BN Sl=>z.1) hnd hm2 hm1 rfl;injection this
  subst e1
  have hsp:(⟨sp.m,s0,s0,true,r'⟩:Sl)={ sp with link:=r' }:=by
   show _=Sl.mk sp.m sp.rest sp.val sp.deep r'
   rw [g14,g15,g3]
  obtain ⟨A2,B2,eAB,hpi⟩:=(hM.tow lp g1).put (h.wy.wb.thk lp g1) (h.wy.wb.slim lp g1) (h.wy.wb.top lp g1) g7 g8 { sp with link:=r' };have hput:=put_ends nlp (mT sp.m) { sp with link:=r' };have hkl:=hput.2.2.2.2.2;rw [g11] at hkl;have hle:nlp.keys.length≤cap 0:=h.wy.wb.slim lp g1 0 _ g7 (up,nlp) (by simp)
  have hLp:LvOK lp.Ls (lp.Ls.set 0 (A2++(up,nlp.put (mT sp.m) { sp with link:=r' })::B2)) (cput (content lp.Ls) (mT sp.m) { sp with link:=r' }) lp.r :=
   ⟨hpi.tow,hpi.thk,hpi.fin (by rw [hkl];simpa using hle),hpi.con,by have:=hpi.lvs;simp at this;omega,hpi.top,hpi.evo⟩
  obtain ⟨a,b,c⟩:=h.wy.putU h.ct ho hold hL g1 g2 g3 g4 hLp (by have:=hpi.lvs;simp at this;omega);have g7':=g7;rw [eAB] at g7';obtain ⟨R3,p1,p2⟩:=flat_one g7';have hnp1:((turnL Y l ⟨l.pre,Ls',r'⟩).map (·.pre)).Nodup:=by rw [turnL_pre (l0:=l) (l1:=⟨l.pre,Ls',r'⟩) rfl];exact hM.pre
  have hlq:lp∈turnL Y l ⟨l.pre,Ls',r'⟩:=(turnL_mem ho.mem _).2 (.inr ⟨g1,g6⟩);refine ⟨T',_,h2.perm ?_,?_,b,?_,by rw [turnL_len,turnL_len];exact hly.trans h.ly,hn,hE,c,fun hf=>fat_turn hlq hpi.fat (fat_turn ho.mem hfat hf),.inl ((turnL_pre (l0:=lp) (l1:=⟨lp.pre,lp.Ls.set 0 (A2++(up,nlp.put (mT sp.m) { sp with link:=r' })::B2),lp.r⟩) rfl).trans (turnL_pre (l0:=l) (l1:=⟨l.pre,Ls',r'⟩) rfl))⟩
  ·have q1:=(flat_turn (l1:=⟨l.pre,Ls',r'⟩) hM.pre ho.mem)
   have q2:=flat_self hnp1 hlq;have q3:=flat_turn (l1:=⟨lp.pre,lp.Ls.set 0 (A2++(up,nlp.put (mT sp.m) { sp with link:=r' })::B2),lp.r⟩) hnp1 hlq
   have q4:(Ls'.flatten++(up,nlp)::Z').Perm ((up,nlp)::(R3++flat (rest1 (turnL Y l ⟨l.pre,Ls',r'⟩) lp))) :=
    ((List.Perm.append_left _ hZ.symm).trans q1.symm).trans (q2.trans (p1.append_right _))
   have q5:(Ls'.flatten++Z').Perm (R3++flat (rest1 (turnL Y l ⟨l.pre,Ls',r'⟩) lp)):=List.Perm.cons_inv (List.perm_middle.symm.trans q4);rw [hsp];refine List.Perm.trans ?_ q3.symm;refine List.Perm.trans ?_ ((p2 _).append_right _).symm;exact List.perm_middle.trans (q5.cons _)
  ·rw [turnL_len,turnL_len,← hlv];exact a
  ·obtain ⟨F2,e⟩:=root_turn (l:=l) (l1:=⟨l.pre,Ls',r'⟩) hY
   have e0:l0.pre≠l.pre:=fun e0=>by
    obtain ⟨a0,F0,e3,e4⟩:=hM.root;rw [hY] at e3;injection e3 with e3 _;rw [e3,e4,g4] at e0;have:=congrArg List.length e0;rw [List.length_append,ube_len] at this;simp at this
   rw [if_neg e0] at e;obtain ⟨F3,e9⟩:=root_turn (l:=lp) (l1:=⟨lp.pre,lp.Ls.set 0 (A2++(up,nlp.put (mT sp.m) { sp with link:=r' })::B2),lp.r⟩) e;refine ⟨_,F3,e9,?_⟩;rw [h1,← hr];split
   ·rename_i e2
    show lp.r=l0.r
    rw [hM.uniq g1 (by rw [hY];simp) e2.symm]
   ·rfl
theorem MTw.leafPut {R0 : Lev Sl} {x1 : Hd} {n : BN Sl} (h : MTw w0 w1 T Y C k pt) (hl : l ∈ Y) {km : Str} (hR : l.Ls[0]? = some R0) (hx : atK R0 km = some (x1, n)) (s : Sl) :
    ∃ A B G',(flat Y).Perm ((x1,n)::G')∧PutI l.Ls km (cput (content l.Ls) km s) l.r 0 x1 (n.put km s) A B (l.Ls.set 0 (A++(x1,n.put km s)::B))∧((x1,n.put km s)::G').Perm ((l.Ls.set 0 (A++(x1,n.put km s)::B)).flatten++flat (rest1 Y l)):=by
 have hM:=h.wy.ok
 obtain ⟨A,B,e,hpi⟩:=(hM.tow l hl).put (h.wy.wb.thk l hl) (h.wy.wb.slim l hl) (h.wy.wb.top l hl) hR hx s
 rw [e] at hR
 obtain ⟨R,p1,p2⟩:=flat_one hR
 exact ⟨A,B,R++flat (rest1 Y l),(flat_at hM hl).trans (p1.append_right _),hpi,((p2 _).append_right _).symm⟩
theorem MTw.leafSI {R0 : Lev Sl} {x1 : Hd} {n : BN Sl} {T1 : TS} {g : LF} (h : MTw w0 w1 T Y C k pt) (hl : l ∈ Y) {km : Str} (hR : l.Ls[0]? = some R0) (hx : atK R0 km = some (x1, n)) (s : Sl) (hA : AM w0 w' T1) (hF : T1.F = fset T.F x1 (leafN g)) (hg : g.bn = n.put km s)
    (hn:T1.n=T.n) (hly:T1.ly=T.ly) (hr:T1.r=T.r) (hfr:T1.free=T.free) (hroom:hasK km n.keys=true∨needOf 0 l.Ls km≤T.free.count true) :
    ∃ A B,SI w0 w' T1 T1 l.Ls km (cput (content l.Ls) km s) l.r (flat (rest1 Y l)) 0 x1 (n.put km s) A B (l.Ls.set 0 (A++(x1,n.put km s)::B))∧SI w0 w' T T1 l.Ls km (cput (content l.Ls) km s) l.r (flat (rest1 Y l)) 0 x1 (n.put km s) A B (l.Ls.set 0 (A++(x1,n.put km s)::B)):=by
 obtain ⟨A,B,G',p1,hpi,p2⟩:=h.leafPut hl hR hx s
 have hm:MF w0 w' T1 ((l.Ls.set 0 (A++(x1,n.put km s)::B)).flatten++flat (rest1 Y l)):=by
  have:=(h.mf.perm p1).set hA hF (.inl ⟨g,rfl⟩);rw [show (leafN g).bn=n.put km s from hg] at this;exact this.perm p2
 have hrm:(n.put km s).keys.length=cap 0+1→1+needOf (0+1) (l.Ls.drop (0+1)) km≤T1.free.count true:=fun h5=>by
  have h6:=(put_ends n km s).2.2.2.2.2;have h4:n.keys.length≤cap 0:=h.wy.wb.slim l hl 0 R0 hR _ (atK_mem hx).1;rw [hfr];rcases hroom with h1 | h1
  ·rw [h1] at h6;simp at h6;omega
  ·have h2:=need_step (i:=0) hR hx
   have h3:¬ n.keys.length < cap 0:=fun hh=>by split at h6 <;> omega
   rw [if_neg h3,List.drop_zero] at h2;omega
 exact ⟨A,B,⟨hm,hpi,hrm,rfl,rfl,rfl⟩,⟨hm,hpi,hrm,hn,hly,hr⟩⟩
theorem SI.old {R0 : Lev Sl} {x1 : Hd} {n : BN Sl} {T1 : TS} {km : Str} {s : Sl} {Cx : Cont Sl} {A B : Lev Sl} {Ls' : List (Lev Sl)} {Z : List (Hd × BN Sl)} (h : MTw w0 w1 T Y C k pt) (hl : l ∈ Y) (hR : l.Ls[0]? = some R0) (hx : atK R0 km = some (x1, n)) (hk : hasK km n.keys = true)
    (hS:SI w0 w' T T1 l.Ls km Cx l.r Z 0 x1 (n.put km s) A B Ls') (hE:TEv w w' T T1):SetF w0 w T l.Ls Cx l.r Z i up mk w':=by
 refine hS.fin hE ?_
 have h6:=(put_ends n km s).2.2.2.2.2
 have h4:n.keys.length≤cap 0:=h.wy.wb.slim l hl 0 R0 hR _ (atK_mem hx).1
 rw [hk] at h6
 simp at h6
 omega
theorem SetF.base {T1:TS} {Ls0:List (Lev Sl)} {Cx:Cont Sl} {r:Hd} {Z:List (Hd×BN Sl)} (hS:SetF w0 w1 T1 Ls0 Cx r Z i up mk w') (hE:TEv w w1 T T1) (hn:T1.n=T.n) (hly:T1.ly=T.ly) (hr:T1.r=T.r):SetF w0 w T Ls0 Cx r Z i up mk w':=by
 obtain ⟨T',Ls',r',a,b,c,d,e⟩:=hS
 refine ⟨T',Ls',r',hE.trans a,b.trans hn,c.trans hly,d,?_⟩
 rcases e with ⟨e1,e2,e3⟩ | ⟨e1,e2,e3⟩ | ⟨e1,e2,e3⟩
 ·exact .inl ⟨e1,e2.trans hr,e3⟩
 ·exact .inr (.inl ⟨e1,e2,e3⟩)
 ·exact .inr (.inr ⟨e1,e2.trans hr,e3⟩)
theorem MTw.deepL {R0 : Lev Sl} {x1 : Hd} {n : BN Sl} {T1 T2 : TS} {g : LF} {w2 : World} {N : NF} {so : Sl} {hs : List Hd} {h0 : Hd} (h : MTw w0 w1 T Y C k pt) (ho : On Y key i l) (hg : M.cget (content l.Ls) (mT (mkAt key i)) = some so) (hd : so.deep = false) (hne : bl so.rest ≠ keyAt key (i + 1))
    (hR:l.Ls[0]?=some R0) (hx:atK R0 (mT so.m)=some (x1,n)) (hk:hasK (mT so.m) n.keys=true) (hl:hs.length=alk (bl so.rest) (keyAt key (i+1))) (hF1:T1.F=T.F++N) (hN:∀ p,(N.map fun z=>(z.1,z.2.bn))=flat (bothN p (bl so.rest) (keyAt key (i+1)) so.val v (h0::hs)))
    (hkd:∀ z,z∈N→(∃ f,z.2.k=.leaf f)∨∃ b,z.2.k=.inn b) (hA1:AM w0 w2 T1) (hA2:AM w0 w' T2) (hF2:T2.F=fset T1.F x1 (leafN g)) (hgb:g.bn=n.put (mT so.m) ⟨so.m,s0,s0,true,h0⟩) (hn:T2.n=T.n) (hly:T2.ly=T.ly+(hs.length+1)) (hr:T2.r=T.r) (hE:TEv w w' T T2):PutL w0 w T Y C k pt key v w':=by
 have hM:=h.wy.ok
 obtain ⟨A,B,G',p1,hpi,p2⟩:=h.leafPut ho.mem hR hx ⟨so.m,s0,s0,true,h0⟩
 have h6:=(put_ends n (mT so.m) (⟨so.m,s0,s0,true,h0⟩:Sl)).2.2.2.2.2
 have h4:n.keys.length≤cap 0:=h.wy.wb.slim l ho.mem 0 R0 hR _ (atK_mem hx).1
 rw [hk] at h6
 have hlv:=hpi.lvs
 simp at h6 hlv
 have hL:LvOK l.Ls (l.Ls.set 0 (A++(x1,n.put (mT so.m) ⟨so.m,s0,s0,true,h0⟩)::B)) (cput (content l.Ls) (mT so.m) ⟨so.m,s0,s0,true,h0⟩) l.r:=⟨hpi.tow,hpi.thk,hpi.fin (by omega),hpi.con,by omega,hpi.top,hpi.evo⟩
 obtain ⟨a,b,c⟩:=h.wy.deepen (v:=v) h.ct ho hg hd hne hl hL (by omega)
 have jl:=bothN_len (h0::hs) (l.pre++ube 8 so.m.s) (bl so.rest) (keyAt key (i+1)) so.val v
 have hM1:MF w0 w2 T1 ((x1,n)::(G'++flat (bothN (l.pre++ube 8 so.m.s) (bl so.rest) (keyAt key (i+1)) so.val v (h0::hs)))):=by
  refine ⟨hA1,?_,fun z hz=>?_⟩
  ·rw [hF1,List.map_append,hN (l.pre++ube 8 so.m.s)]
   exact (h.mf.fl.trans p1).append_right _
  ·rw [hF1] at hz
   rcases List.mem_append.1 hz with hz | hz
   ·exact h.mf.kd z hz
   ·exact hkd z hz
 have hM2:=hM1.set hA2 hF2 (.inl ⟨g,rfl⟩)
 rw [show (leafN g).bn=n.put (mT so.m) ⟨so.m,s0,s0,true,h0⟩ from hgb] at hM2
 obtain ⟨l0,F',hY,hrr⟩:=h.ro
 refine ⟨T2,_,hM2.perm ?_,?_,b,?_,?_,hn,hE,c,fun hf z hz=>?_,.inr ⟨i,l,so,v,h0::hs,ho,hg,hd,hne,by rw [List.length_cons,hl],by rw [List.map_append,turnL_pre (l0:=l) (l1:=⟨l.pre,l.Ls.set 0 (A++(x1,n.put (mT so.m) ⟨so.m,s0,s0,true,h0⟩)::B),l.r⟩) rfl]⟩⟩
 ·have q1:=flat_turn (l1:=⟨l.pre,l.Ls.set 0 (A++(x1,n.put (mT so.m) ⟨so.m,s0,s0,true,h0⟩)::B),l.r⟩) hM.pre ho.mem
  have e:flat (turnL Y l ⟨l.pre,l.Ls.set 0 (A++(x1,n.put (mT so.m) ⟨so.m,s0,s0,true,h0⟩)::B),l.r⟩++bothN (l.pre++ube 8 so.m.s) (bl so.rest) (keyAt key (i+1)) so.val v (h0::hs))=flat (turnL Y l ⟨l.pre,l.Ls.set 0 (A++(x1,n.put (mT so.m) ⟨so.m,s0,s0,true,h0⟩)::B),l.r⟩)++flat (bothN (l.pre++ube 8 so.m.s) (bl so.rest) (keyAt key (i+1)) so.val v (h0::hs)):=List.flatMap_append;rw [e];exact ((p2.trans q1.symm).append_right _)
 ·have e:(turnL Y l ⟨l.pre,l.Ls.set 0 (A++(x1,n.put (mT so.m) ⟨so.m,s0,s0,true,h0⟩)::B),l.r⟩++bothN (l.pre++ube 8 so.m.s) (bl so.rest) (keyAt key (i+1)) so.val v (h0::hs)).length=Y.length+(hs.length+1):=by rw [List.length_append,turnL_len,jl];rfl
  rw [e];exact ⟨a.ok,a.wb.mono (by omega) (Nat.le_refl _)⟩
 ·obtain ⟨F2,e⟩:=root_turn (l:=l) (l1:=⟨l.pre,l.Ls.set 0 (A++(x1,n.put (mT so.m) ⟨so.m,s0,s0,true,h0⟩)::B),l.r⟩) hY
  refine ⟨_,F2++bothN (l.pre++ube 8 so.m.s) (bl so.rest) (keyAt key (i+1)) so.val v (h0::hs),by rw [e];rfl,?_⟩;rw [hr,← hrr];split
  ·rename_i e2
   show l.r=l0.r
   rw [hM.uniq ho.mem (by rw [hY];simp) e2.symm]
  ·rfl
 ·rw [List.length_append,turnL_len,jl,hly,h.ly]
  rfl
 ·rcases List.mem_append.1 hz with hz | hz
  ·exact fat_turn ho.mem hpi.fat hf z hz
  ·exact .inl (bothN_one _ _ _ _ _ _ z hz)
theorem MTw.delL {R0 : Lev Sl} {x1 : Hd} {n : BN Sl} {T1 : TS} {g : LF} {s : Sl} (h : MTw w0 w1 T Y C k pt) (ho : On Y key i l) (hg : M.cget (content l.Ls) (mT (mkAt key i)) = some s) (hd : s.deep = false) (hsk : keyAt key i = sb s) (hR : l.Ls[0]? = some R0) (hx : atK R0 (mT (mkAt key i)) = some (x1, n))
    (hA:AM w0 w' T1) (hF:T1.F=fset T.F x1 (leafN g)) (hgb:g.bn=n.del (mT (mkAt key i))) (hly:T1.ly=T.ly) (hr:T1.r=T.r) :
    ∃ Y',MF w0 w' T1 (flat Y')∧WY Y' (Y'.length+k) pt∧MCt Y' (cdel C key)∧(∃ l F',Y'=l::F'∧l.r=T1.r)∧T1.ly=Y'.length∧(EvoY Y Y'∧Y'.map (·.pre)=Y.map (·.pre)):=by
 have hM:=h.wy.ok
 have htw:=hM.tow l ho.mem
 obtain ⟨A,B,e,d1,d2,d3,d4⟩:=htw.del (h.wy.wb.thk l ho.mem) hR hx
 simp only at d1 d2 d3 d4
 have hRR:=hR
 rw [e] at hR
 obtain ⟨R,p1,p2⟩:=flat_one hR
 have hends:(n.del (mT (mkAt key i))).high=n.high:=by unfold BN.del;split <;> rfl
 have hj0:=(List.getElem?_eq_some_iff.1 hR).1
 have hlv0:leaves (l.Ls.set 0 (A++(x1,n.del (mT (mkAt key i)))::B))=leaves l.Ls:=by
  rw [leaves_of hR,leaves_of (S:=A++(x1,n.del (mT (mkAt key i)))::B) (by rw [List.getElem?_set_self hj0])];simp
 have hevo:Evo l.Ls (l.Ls.set 0 (A++(x1,n.del (mT (mkAt key i)))::B)):=Evo.set hR fun z hz=>by
  rw [lows_same A s0 (x:=(x1,n)) (y:=(x1,n.del (mT (mkAt key i)))) B rfl hends.symm] at hz;exact hz
 have hL:LvOK l.Ls (l.Ls.set 0 (A++(x1,n.del (mT (mkAt key i)))::B)) (cdel (content l.Ls) (mT (mkAt key i))) l.r:=by
  refine ⟨d1,d2,d4 (h.wy.wb.slim l ho.mem),d3,by omega,?_,hevo⟩;obtain ⟨n0,ht⟩:=h.wy.wb.top l ho.mem;rw [List.length_set];by_cases h1:l.Ls.length - 1=0
  ·rw [h1] at ht ⊢
   rw [ht] at hR;injection hR with hR
   have hA0:A=[]:=by
    cases A with
    | nil=>rfl
    | cons a A=>simp at hR
   subst hA0;simp at hR;obtain ⟨e1,e2⟩:=hR;subst e2;exact ⟨n.del (mT (mkAt key i)),by rw [List.getElem?_set_self hj0,e1.1];rfl⟩
  ·exact ⟨n0,by rw [List.getElem?_set_ne (by omega)];exact ht⟩
 obtain ⟨a,b,c⟩:=h.wy.del h.ct ho hg hd hsk hL (by omega)
 obtain ⟨l0,F',hY,hrr⟩:=h.ro
 have hM2:=(h.mf.perm ((flat_at hM ho.mem).trans (p1.append_right _))).set hA hF (.inl ⟨g,rfl⟩)
 rw [show (leafN g).bn=n.del (mT (mkAt key i)) from hgb] at hM2
 refine ⟨_,hM2.perm ?_,?_,b,?_,by rw [turnL_len];exact hly.trans h.ly,c,turnL_pre rfl⟩
 ·exact ((p2 _).append_right _).symm.trans (flat_turn (l1:=⟨l.pre,l.Ls.set 0 (A++(x1,n.del (mT (mkAt key i)))::B),l.r⟩) hM.pre ho.mem).symm
 ·rw [turnL_len];exact a
 ·obtain ⟨F2,e9⟩:=root_turn (l:=l) (l1:=⟨l.pre,l.Ls.set 0 (A++(x1,n.del (mT (mkAt key i)))::B),l.r⟩) hY
  refine ⟨_,F2,e9,?_⟩;rw [hr,← hrr];split
  ·rename_i e2
   show l.r=l0.r
   rw [hM.uniq ho.mem (by rw [hY];simp) e2.symm]
  ·rfl
def FullF (T:TS) (Y:List Ly) (key:Str) (pt:Nat):Prop:=∃ n,T.free.count true < n∧((n≤15∧∃ l,l∈Y∧n≤l.Ls.length+1)∨(16*(Y.length+n - 1)≤pt+key.size∧n≤1+key.size / 8))
theorem le_sumS {α:Type} (g:α→Nat) {x:α}:∀ {L:List α},x∈L→g x≤(L.map g).sum
 | [],h=>by simp at h
 | a::L,h=>by
  rcases List.mem_cons.1 h with rfl | h
  ·simp
  ·have:=le_sumS g h
   simp only [List.map_cons,List.sum_cons];omega
theorem MTw.fullD {so:Sl} (h:MTw w0 w1 T Y C k pt) (ho:On Y key i l) (hg:M.cget (content l.Ls) (mT (mkAt key i))=some so) (hd:so.deep=false) (hne:bl so.rest≠keyAt key (i+1)) (hf:T.free.count true < 1+alk (bl so.rest) (keyAt key (i+1))):FullF T Y key pt:=by
 obtain ⟨c1,c2,c3,c4,c5,c6⟩:=clash h.wy.ok ho hg hd hne
 have hin:=(h.wy.ok.cget ho.mem).1 hg
 have e1:ptS so≤ptL l:=le_sumS (fun x:Str×Sl=>ptS x.2) hin
 have e2:ptL l≤(Y.map ptL).sum:=le_sumS ptL ho.mem
 have e3:=h.wy.wb.pot
 unfold M.pot at e3
 have e4:ptS so=(bl so.rest).length+8:=by
  unfold ptS;rw [if_neg (by have:=List.length_pos_iff.2 c3;omega)]
 have hp:=both_pot (v:=so.val) (w:=s0) c3 c4 (n:=alk (bl so.rest) (keyAt key (i+1))) rfl
 have hal:=alk_lt _ _ _ (Nat.le_refl _) c3 c4
 have hkl:=keyAt_len key (i+1)
 have hk0:=List.length_pos_iff.2 c4
 have hY:1≤Y.length:=List.length_pos_of_mem ho.mem
 exact ⟨_,hf,.inr ⟨by omega,by omega⟩⟩
end
open Go.RowKit
def PutE (w0 w:World) (T:TS) (Y:List Ly) (C:Cont Str) (k pt:Nat) (key v:Str) (e:Ending) (w':World):Prop :=
 (e=.returned (.tuple #[.string ((M.cget C key).getD s0),.bool (M.cget C key).isSome,.int .i64 0])∧∃ T' Y',MTw w0 w' T' Y' (cput C key v) (k+1) (pt+key.size)∧TEv w w' T T'∧(EvoY Y Y'∧PutY Y Y' key)) ∨
 (e=.returned (.tuple #[.string s0,.bool false,.int .i64 5])∧M.cget C key=none∧FullF T Y key pt∧AM w0 w' T∧TEv w w' T T)
theorem PutL.mtw {w0 w w1 w' : World} {T : TS} {Y : List Ly} {C : Cont Str} {k pt : Nat} {key v : Str} (_h : MTw w0 w1 T Y C k pt) (hP : PutL w0 w T Y C k pt key v w') :
    ∃ T' Y',(∀ w2 T2,AM w0 w2 T2→T2.F=T'.F→T2.r=T'.r→T2.ly=T'.ly→T2.n=(cput C key v).length→MTw w0 w2 T2 Y' (cput C key v) (k+1) (pt+key.size))∧AM w0 w' T'∧TEv w w' T T'∧(EvoY Y Y'∧PutY Y Y' key)∧T'.n=T.n:=by
 obtain ⟨T',Y',a,b,c,⟨l,F',e,er⟩,ly,n,ev,evo⟩:=hP
 exact ⟨T',Y',fun w2 T2 hA hF hr hl hn=>⟨a.same hA hF,b,c,⟨l,F',e,er.trans hr.symm⟩,hl.trans ly,hn⟩,a.am,ev,evo,n⟩
theorem toList_inj {a b:Str} (h:a.toList=b.toList):a=b:=by
 rw [ByteArray.toList_eq,ByteArray.toList_eq] at h
 exact bl_inj h
theorem slOf_key (key v:Str) (i:Nat):slOf (keyAt key i) v=⟨mkAt key i,bs (keyAt key (i+1)),v,false,(0,0)⟩:=by
 unfold slOf
 congr 2
 show ((bl key).drop (8*i)).drop 8=(bl key).drop (8*(i+1))
 rw [List.drop_drop]
 rfl
section
variable {Y:List Ly} {C:Cont Str} {key:Str} {i:Nat} {l:Ly} {s:Sl} {is:Bool} {rs:Str} {f:LF}
theorem find_cget (h : MOK Y) (hct : MCt Y C) (ho : On Y key i l) (hrs : rs = bs (keyAt key (i + 1))) (h1 : is = true → M.cget (content l.Ls) (mT (mkAt key i)) = some s ∧ s.deep = false) (h2 : is = false → M.cget (content l.Ls) (mT (mkAt key i)) = none) :
    M.cget C key=if is=true∧s.rest=rs then some s.val else none:=by
 cases is
 ·rw [hct.none h ho (h2 rfl)];simp
 ·obtain ⟨a,b⟩:=h1 rfl
  rw [hct.plain h ho a b];by_cases e:s.rest=rs
  ·rw [if_pos (by rw [e,hrs,bl_bs]),if_pos ⟨rfl,e⟩]
  ·rw [if_neg (fun e2=>e (by rw [hrs,← e2,bs_bl])),if_neg (fun e2=>e e2.2)]
theorem find_has (hg:M.cget (content l.Ls) (mT (mkAt key i))=(if hasK (mT (mkAt key i)) f.bn.keys then f.bn.vals[cut (mT (mkAt key i)) f.bn.keys]? else none)) (h1:is=true→M.cget (content l.Ls) (mT (mkAt key i))=some s∧s.deep=false) (h2:is=false→M.cget (content l.Ls) (mT (mkAt key i))=none) (hf:f.bn.vals.length=f.bn.keys.length):hasK (mT (mkAt key i)) f.bn.keys=is:=by
 cases hh:hasK (mT (mkAt key i)) f.bn.keys
 ·cases is
  ·rfl
  ·rw [hh,(h1 rfl).1] at hg;cases hg
 ·cases is
  ·rw [hh,h2 rfl] at hg
   have hk:=(List.getElem?_eq_some_iff.1 (hasK_iff.1 hh)).1;rw [if_pos rfl] at hg;have:=List.getElem?_eq_none_iff.1 hg.symm;omega
  ·rfl
end
set_option maxRecDepth 100000 in
set_option maxHeartbeats 4000000 in
theorem MTw.put {w0 w : World} {T : TS} {Y : List Ly} {C : Cont Str} {k pt : Nat} (h : MTw w0 w T Y C k pt) (hk : k ≤ 1000) (hpt : pt ≤ 100000) (key v : Str) (hks : key.size ≤ 100000) (hCn : C.length ≤ 1000000000) :
    Calls Tryz.prog 22 #[.pointer (some ⟨T.t,0,none⟩),.string key,.string v] w (PutE w0 w T Y C k pt key v):=by
 have hTr:=h.tr hk hpt
 have hFi:=qh (hTr.find key (by omega))
 have c1:=h.mf.am.cells.2.1
 have c6:=h.mf.am.cells.2.2.2.2.2.2.1
 have htl:=block_lt_of_cell c1
 have hNo:=qh (none_ok c1)
 obtain ⟨A,hAe⟩:∃ a,a=T.d.A.a:=⟨_,rfl⟩
 have hS0:=MS.start h.mf.am
 replace hS0:=qh hS0
 replace hAe:=qh hAe
 replace h:=qh h
 replace hTr:=qh hTr
 go_enter Tryz.func22,Tryz.ntmps22
 go_wp2_with fail
 refine hNo.out.mono ?_
 rintro z1 w1 ⟨rfl,rfl⟩
 go_wp2_with fail
 refine hFi.out.mono ?_
 clear hFi
 rintro z2 w2 ⟨i,l,pa,pc,up,mk,s,is,po,rfl,hon,hup,⟨hpo,hpge,hrow⟩,hA2,hE2,hist,hisf⟩
 have hpr:T.ρ pa=0:=h.out.mf.am.bw.ro.far _ hpge
 have hS2:=(hS0.out.call hA2 hE2).add hpo hpge hpr (fun x hx=>by cases hx)
 clear hpo
 obtain ⟨N,hN⟩:∃ N,N=l.Ls.length:=⟨_,rfl⟩
 rw [← hN] at hrow
 unfold slc
 have hik:i≤key.size:=hon.lt.elim (fun h9=>by omega) (fun h9=>by have:(bl key).length=key.size:=rfl;omega)
 have hN1:N≤14:=by rw [hN];exact h.out.hgt hk hpt hon.mem
 obtain ⟨R0,x1,nd,q,f,hR,hx,hnF,hq,hcs,hnb,hf,hpg,hget,hmemf⟩:=hTr.out.leafAt hon.mem (mT (mkAt key i))
 have hN0:0 < N:=by have:=(List.getElem?_eq_some_iff.1 hR).1;omega
 rw [← hN] at hpg
 have hmk:MkOK (mkAt key i):=mkOf_ok (keyAt key i)
 have hSl:=qh fun W=>mtSlot_any key v i (by omega) (by omega) W
 have hcov:=cov_of hf hmk (atK_mem hx).2
 have hfn:f.n≤6:=by have h9:=h.out.wy.wb.slim l hon.mem 0 R0 hR _ (atK_mem hx).1;simp only at h9;rw [hf.klen] at h9;exact h9
 have hMOK:=h.out.wy.ok
 have hso:is=true→s.m=mkAt key i∧SlOK s:=fun h9=>hMOK.slot hon.mem (mkOf_b _) (hist h9).1
 obtain ⟨rs,hrs⟩:∃ r,r=bs (keyAt key (i+1)):=⟨_,rfl⟩
 have hs9:slOf (keyAt key i) v=⟨mkAt key i,rs,v,false,(0,0)⟩:=by rw [hrs];exact slOf_key key v i
 rw [← hrs] at hSl
 have hvl:f.bn.vals.length=f.bn.keys.length:=by rw [hf.klen];exact hf.len
 have hcg:=find_cget hMOK h.out.ct hon hrs hist hisf
 have hhas:=find_has hget hist hisf hvl
 have hAt:Hid (∀ W L,MS w0 w T W T L→W.heap[q]?=some (.cells (.int .u64 x1.2::.bool true::(lfc f++zic)).toArray 192)):=qh fun W L hS=>by have:=hS.am.at hnF hq;rw [hcs] at this;exact this
 have hG:Hid (∀ W L,MS w0 w T W T L→Calls Tryz.prog 62 #[.pointer (some ⟨A,0,none⟩),.agg #[.int .i64 x1.1,.int .u64 x1.2]] W fun y W'=>y=.returned (.tuple #[.pointer (some ⟨q,1,none⟩),.bool true])∧Below W.heap.size W W'):=qh fun W L hS=>by rw [hAe.out];exact hS.getQ hq
 have hcl:=lfc_len hf.S
 obtain ⟨cs,hcse⟩:∃ c,c=lfc f:=⟨_,rfl⟩
 obtain ⟨y,hy⟩:∃ c,c=zic:=⟨_,rfl⟩
 have hylen:y.length=8:=by rw [hy];rfl
 rw [← hcse,← hy] at hAt
 rw [← hcse] at hcl
 obtain ⟨m,hm⟩:∃ m,m=mkAt key i:=⟨_,rfl⟩
 rw [← hm] at hSl
 have hplen:=pathOf_len l.Ls (mT (mkAt key i))
 rw [← hN] at hplen
 have hpk:Hid (∀ W:World,W.heap[pa]?=some po→W.cell? ⟨pa,(N - 1)*2,none⟩=some (.int .i64 x1.1)∧W.cell? ⟨pa,(N - 1)*2+1,none⟩=some (.int .u64 x1.2)∧pa < W.heap.size∧N≤pc):=qh fun W hW=>by
  obtain ⟨b',c',ev,_,_,_,h5,_,_,hat⟩:=(hrow W hW).at hpg;injection ev with ev _ ev2;injection ev with ev;injection ev with ev;subst ev ev2;exact ⟨hat 0 _ rfl,hat 1 _ rfl,heap_lt hW,by omega⟩
 have hNc:=(hpk.out w2 (hS2.nth 0 rfl)).2.2.2
 replace hrow:=qh hrow
 replace hpg:=qh hpg
 replace hR:=qh hR
 replace hx:=qh hx
 replace hnF:=qh hnF
 replace hq:=qh hq
 replace hcs:=qh hcs
 replace hnb:=qh hnb
 replace hf:=qh hf
 replace hget:=qh hget
 replace hmemf:=qh hmemf
 replace hmk:=qh hmk
 replace hcov:=qh hcov
 replace hfn:=qh hfn
 replace hMOK:=qh hMOK
 replace hso:=qh hso
 replace hrs:=qh hrs
 replace hs9:=qh hs9
 replace hcg:=qh hcg
 replace hhas:=qh hhas
 replace hcse:=qh hcse
 replace hy:=qh hy
 replace hcl:=qh hcl
 replace hylen:=qh hylen
 replace hm:=qh hm
 replace hN:=qh hN
 replace hon:=qh hon
 replace hup:=qh hup
 replace hist:=qh hist
 replace hisf:=qh hisf
 replace hpr:=qh hpr
 replace hpge:=qh hpge
 replace hvl:=qh hvl
 replace hplen:=qh hplen
 clear hA2 hE2
 go_upto_region 6 with fail
 rw [← hN.out]
 have hS3:=(hS2.box (.cells #[.int .i64 ((i:Nat):Int),.slice (some ⟨pa,0,none⟩) N pc,.int .i64 up.1,.int .u64 up.2,.int .u64 ((mk.s:Nat):Int),.int .u8 ((mk.c:Nat):Int)] 120)).box (.cells #[.int .u64 ((s.m.s:Nat):Int),.int .u8 ((s.m.c:Nat):Int),.string s.rest,.string s.val,.bool s.deep,.int .i64 s.link.1,.int .u64 s.link.2] 92)
 have q1:(w2.alloc (.cells #[.int .i64 ((i:Nat):Int),.slice (some ⟨pa,0,none⟩) N pc,.int .i64 up.1,.int .u64 up.2,.int .u64 ((mk.s:Nat):Int),.int .u8 ((mk.c:Nat):Int)] 120)).heap.size=w2.heap.size+1:=by simp
 rw [q1] at hS3
 clear q1
 generalize (w2.alloc (.cells #[.int .i64 ((i:Nat):Int),.slice (some ⟨pa,0,none⟩) N pc,.int .i64 up.1,.int .u64 up.2,.int .u64 ((mk.s:Nat):Int),.int .u8 ((mk.c:Nat):Int)] 120)).alloc (.cells #[.int .u64 ((s.m.s:Nat):Int),.int .u8 ((s.m.c:Nat):Int),.string s.rest,.string s.val,.bool s.deep,.int .i64 s.link.1,.int .u64 s.link.2] 92)=w3 at *
 obtain ⟨PB,hPB⟩:∃ b,b=w2.heap.size:=⟨_,rfl⟩
 obtain ⟨SB,hSB⟩:∃ b,b=w2.heap.size+1:=⟨_,rfl⟩
 rw [← hSB,← hPB] at hS3 ⊢
 replace hPB:=qh hPB
 replace hSB:=qh hSB
 replace hS3:=qh hS3
 obtain ⟨p,hp⟩:∃ p,p=N - 1:=⟨_,rfl⟩
 rw [← hp] at hpk
 have hw1:IntKind.i64.wrap ((N:Int) - 1)=(p:Int):=by rw [show ((N:Int) - 1)=(p:Int) by omega];exact IntWalk.i64_in _ (by omega)
 have hp1:p < N:=by omega
 have hp2:(p:Int) < (N:Int):=by omega
 replace hp:=qh hp
 have hSd:=hS3.out.drew
 refine wp_region_late [] (S:=fun W'=>W'.cell? ⟨T.t,1,none⟩=some (.pointer (some ⟨A,0,none⟩))∧W'.heap[PB]?=some (.cells #[.int .i64 ((i:Nat):Int),.slice (some ⟨pa,0,none⟩) N pc,.int .i64 up.1,.int .u64 up.2,.int .u64 ((mk.s:Nat):Int),.int .u8 ((mk.c:Nat):Int)] 120)∧W'.heap[pa]?=some po) rfl (⟨by rw [hAe.out];exact hSd.tree,hSd.nth 1 rfl,hSd.nth 2 rfl⟩) (fun hHeld=>?_)
 try dsimp only at hHeld
 refine tkW 0 ?_
 refine tkW 1 ?_
 refine tkW 2 ?_
 refine tkM 3 ?_ (hz:=by rintro w ⟨e1,e2,e3⟩;obtain ⟨d0,d1,d2,d3,d4,d5,d6,d7⟩:=box6 e2;obtain ⟨k0,k1,kl,_⟩:=hpk.out _ e3;exact zf)
 refine tkW 4 ?_
 refine tkM 5 ?_ (hz:=by rintro w ⟨e1,e2,e3⟩;obtain ⟨d0,d1,d2,d3,d4,d5,d6,d7⟩:=box6 e2;obtain ⟨k0,k1,kl,_⟩:=hpk.out _ e3;exact zf)
 refine tkW 6 ?_
 refine tkM 7 ?_ (hz:=by rintro w ⟨e1,e2,e3⟩;obtain ⟨d0,d1,d2,d3,d4,d5,d6,d7⟩:=box6 e2;obtain ⟨k0,k1,kl,_⟩:=hpk.out _ e3;exact zf)
 refine tkW 8 ?_
 refine tkW 9 ?_
 refine tkW 10 ?_
 refine tkM 11 ?_ (hz:=by rintro w ⟨e1,e2,e3⟩;obtain ⟨d0,d1,d2,d3,d4,d5,d6,d7⟩:=box6 e2;obtain ⟨k0,k1,kl,_⟩:=hpk.out _ e3;exact zf)
 refine rdM 12 ?_
 intro K hK
 go_simp
 go_at_call 62
 refine (hG.out _ _ hSd).mono ?_
 rintro z3 w4 ⟨rfl,hb⟩
 have hSe:=hSd.below hb
 clear hb
 have hS9y:w4.cell? ⟨T.t,1,none⟩=some (.pointer (some ⟨A,0,none⟩))∧w4.heap[PB]?=some (.cells #[.int .i64 ((i:Nat):Int),.slice (some ⟨pa,0,none⟩) N pc,.int .i64 up.1,.int .u64 up.2,.int .u64 ((mk.s:Nat):Int),.int .u8 ((mk.c:Nat):Int)] 120)∧w4.heap[pa]?=some po:=⟨by rw [hAe.out];exact hSe.tree,hSe.nth 1 rfl,hSe.nth 2 rfl⟩
 replace hSe:=qh hSe
 go_wp2_with fail
 refine hK.out _ _ (fun _ _=>hS9y) ?_
 clear hHeld hK K
 have hHeld:=hS9y
 clear hS9y
 try simp only [Act.put,zs1,zs2,zs3]
 try simp only [Act.put]
 refine tkW 13 ?_
 refine tkW 14 ?_
 refine tkW 15 ?_
 refine tkW 16 ?_
 refine tkW 17 ?_
 refine wpAnyM_done (by kernel_rfl) ?_ _
 try simp only [Exit.then]
 clear hHeld hSd hw1 hp1 hp2
 obtain ⟨d0,d1,d2,d3,d4,d5,d6,d7⟩:=box6 (hSe.out.nth 1 rfl)
 go_wp2_with fail
 refine (hSl.out _).mono ?_
 rintro z4 w5 ⟨rfl,hb⟩
 have hS5:=qh (hSe.out.below hb)
 clear hb d0 d1 d2 d3 d4 d5 d6 d7
 have hS6:=hS5.out.box (.cells #[.int .u64 ((m.s:Nat):Int),.int .u8 ((m.c:Nat):Int),.string rs,.string v,.bool false,.int .i64 0,.int .u64 0] 92)
 obtain ⟨MB,hMB⟩:∃ b,b=w5.heap.size:=⟨_,rfl⟩
 rw [← hMB] at hS6
 replace hMB:=qh hMB
 have hge6:=hS6
 obtain ⟨w6,hw6⟩:∃ W,W=w5.alloc (.cells #[.int .u64 ((m.s:Nat):Int),.int .u8 ((m.c:Nat):Int),.string rs,.string v,.bool false,.int .i64 0,.int .u64 0] 92):=⟨_,rfl⟩
 rw [← hw6] at hS6
 clear hge6
 replace hw6:=qh hw6
 replace hS6:=qh hS6
 cases is
 ·skip
  have hcn:M.cget C key=none:=by rw [hcg.out,if_neg (fun e=>by cases e.1)]
  obtain ⟨nd9,hnd9⟩:∃ n,n=needOf 0 l.Ls (mT (mkAt key i)):=⟨_,rfl⟩;have hndl:nd9≤15∧∃ l0,l0∈Y∧nd9≤l0.Ls.length+1:=by rw [hnd9];have h7:=need_le (Ls:=l.Ls) (key:=mT (mkAt key i)) (j:=0);have:=hN.out;exact ⟨by omega,l,hon.out.mem,h7⟩
  have hNe:Hid (∀ W L,MS w0 w T W T L→W.heap[pa]?=some po→Calls Tryz.prog 68 #[.pointer (some ⟨T.t,0,none⟩),.slice (some ⟨pa,0,none⟩) N pc] W fun e w'=>e=.returned (.int .i64 ((nd9:Nat):Int))∧Below W.heap.size W w'):=qh fun W L hS hp9=>by rw [hnd9];have hr9:=hrow.out W hp9;rw [hN.out] at hr9 ⊢;exact ((h.out.on hS.am).tr hk hpt).need hon.out.mem _ hr9
  obtain ⟨rm,hrm⟩:∃ b,b=decide (((nd9:Nat):Int)≤((T.free.count true:Nat):Int)):=⟨_,rfl⟩;have hRm:Hid (∀ W L,MS w0 w T W T L→Calls Tryz.prog 65 #[.pointer (some ⟨T.P.1,0,none⟩),.int .i64 ((nd9:Nat):Int)] W fun e w'=>e=.returned (.bool rm)∧Below W.heap.size W w'):=qh fun W L hS=>by rw [hrm];exact pRoom_any T.P.1 T.P.2.1 T.P.2.2 T.gens T.free _ W hS.am.bw.ars.pool.1
  replace hcn:=qh hcn;replace hnd9:=qh hnd9;replace hndl:=qh hndl;replace hrm:=qh hrm;obtain ⟨s0a,s1a,s2a,s3a,s4a,s5a,s6a,s7a⟩:=box7 (hS5.out.nth 0 rfl);go_upto_region 8 with fail;clear s0a s1a s2a s3a s4a s5a s6a s7a;rw [← hw6.out,← hMB.out];have hSd:=hS6.out.drew;refine wp_region_late [] (S:=fun W'=>W'.cell? ⟨T.t,0,none⟩=some (.pointer (some ⟨T.P.1,0,none⟩))∧W'.heap[PB]?=some (.cells #[.int .i64 ((i:Nat):Int),.slice (some ⟨pa,0,none⟩) N pc,.int .i64 up.1,.int .u64 up.2,.int .u64 ((mk.s:Nat):Int),.int .u8 ((mk.c:Nat):Int)] 120)) rfl (⟨hSd.pool,hSd.nth 2 rfl⟩) (fun hHeld=>?_)
  try dsimp only at hHeld
  refine tkW 0 ?_;refine tkW 1 ?_;refine tkW 2 ?_;refine tkM 3 ?_ (hz:=by rintro w ⟨e0,e1⟩;obtain ⟨d0,d1,d2,d3,d4,d5,d6,d7⟩:=box6 e1;exact zf);refine tkW 4 ?_;refine tkW 5 ?_;refine tkM 6 ?_ (hz:=by rintro w ⟨e0,e1⟩;obtain ⟨d0,d1,d2,d3,d4,d5,d6,d7⟩:=box6 e1;exact zf);refine rdM 7 ?_;intro K hK;go_simp;go_at_call 68;refine (hNe.out _ _ hSd (hSd.nth 3 rfl)).mono ?_;rintro z6 w7 ⟨rfl,hb⟩;have hS7:=hSd.below hb;clear hb;have hS9y:w7.cell? ⟨T.t,0,none⟩=some (.pointer (some ⟨T.P.1,0,none⟩))∧w7.heap[PB]?=some (.cells #[.int .i64 ((i:Nat):Int),.slice (some ⟨pa,0,none⟩) N pc,.int .i64 up.1,.int .u64 up.2,.int .u64 ((mk.s:Nat):Int),.int .u8 ((mk.c:Nat):Int)] 120):=⟨hS7.pool,hS7.nth 2 rfl⟩;replace hS7:=qh hS7;go_wp2_with fail;refine hK.out _ _ (fun _ _=>hS9y) ?_;clear hHeld hK K;have hHeld:=hS9y;clear hS9y
  try simp only [Act.put,zs1,zs2,zs3]
  try simp only [Act.put]
  refine rdM 8 ?_;intro K hK;go_simp;go_at_call 65;refine (hRm.out _ _ hS7.out).mono ?_;rintro z6 w8 ⟨rfl,hb⟩;have hS8:=hS7.out.below hb;clear hb;have hS9y:w8.cell? ⟨T.t,0,none⟩=some (.pointer (some ⟨T.P.1,0,none⟩))∧w8.heap[PB]?=some (.cells #[.int .i64 ((i:Nat):Int),.slice (some ⟨pa,0,none⟩) N pc,.int .i64 up.1,.int .u64 up.2,.int .u64 ((mk.s:Nat):Int),.int .u8 ((mk.c:Nat):Int)] 120):=⟨hS8.pool,hS8.nth 2 rfl⟩;replace hS8:=qh hS8;go_wp2_with fail;refine hK.out _ _ (fun _ _=>hS9y) ?_;clear hHeld hK K;have hHeld:=hS9y;clear hS9y
  try simp only [Act.put,zs1,zs2,zs3]
  try simp only [Act.put]
  refine tkW 9 ?_;refine wpAnyM_done (by kernel_rfl) ?_ _
  try simp only [Exit.then]
  clear hHeld hSd
  cases rm
  ·skip
   go_wp2_with fail;refine bodyPost_ret (v:=.tuple #[.string ⟨#[]⟩,.bool false,.int .i64 5]) (by simp [results,Tryz.results22,go_sem]) rfl ?_;exact .inr ⟨rfl,hcn.out,⟨nd9,by have h9:=hrm.out;simp at h9;omega,.inl hndl.out⟩,hS8.out.am,hS8.out.ev⟩
  ·skip
   have hfr:nd9≤T.free.count true:=by have h9:=hrm.out;simp at h9;omega
   have hPn:Hid (∀ W,Calls Tryz.prog 64 #[.agg cs.toArray,.agg #[.int .u64 ((m.s:Nat):Int),.int .u8 ((m.c:Nat):Int),.string rs,.string v,.bool false,.int .i64 0,.int .u64 0]] W fun e w'=>∃ (cl co:List Value) (g:LF),e=.returned (.tuple #[.agg cl.toArray,.agg co.toArray,.bool false])∧cl=lfc g∧LFOK g∧g.bn=f.bn.put (mT m) (slOf (keyAt key i) v)∧Below W.heap.size W w'):=qh fun W=>by
    have h9:=lfPut_any f hf.out (slOf (keyAt key i) v) (slOf_ok _ v) (by rw [hs9.out,← hm.out];rw [hm.out];exact hcov.out) (fun _=>by have:=hfn.out;omega) W;rw [hs9.out,← hm.out,← hcse.out] at h9;have hh:=hhas.out;rw [← hm.out] at hh;simp only [hh] at h9;refine h9.mono ?_;rintro e w' ⟨cl,co,g,o,rfl,a1,a2,a3,a4,a5,a6⟩;exact ⟨cl,co,g,rfl,a1,a3,by rw [a4,hs9.out,← hm.out],a6⟩
   go_upto_region 10 with fail;have hSd:=hS8.out.drew;refine wp_region_late [13] (S:=fun W'=>W'.heap[q]?=some (.cells (.int .u64 x1.2::.bool true::(cs++y)).toArray 192)∧W'.heap[MB]?=some (.cells #[.int .u64 ((m.s:Nat):Int),.int .u8 ((m.c:Nat):Int),.string rs,.string v,.bool false,.int .i64 0,.int .u64 0] 92)) rfl (⟨hAt.out _ _ hSd,hSd.nth 0 rfl⟩) (fun hHeld=>?_)
   try dsimp only at hHeld
   generalize w8.drew=w8d at *;refine tkW 0 ?_;refine tkW 1 ?_;refine tkW 2 ?_;refine tkW 3 ?_;refine ykM 4 ?_ (hy:=yieldsIf_load_mid (by rfl) 95 (.tmp 65) rfl q 2 (by rfl) cs _ (fun w hw=>range_mid hw.1 hcl.out) Tryz.underlying95 rfl (by rw [hcl.out];kernel_rfl));refine tkM 5 ?_ (hz:=by rintro w ⟨e1,e2⟩;obtain ⟨b0,b1,b2,b3,b4,b5,b6,b7⟩:=box7 e2;exact zf);refine rdM 6 ?_;intro K hK;go_simp;go_at_call 64;refine (hPn.out _).mono ?_;rintro z6 w9 ⟨cl,co,g,rfl,hcl2,hg,hgb,hb⟩;have hS9:=hSd.below hb;clear hb;have hS9y:w9.heap[q]?=some (.cells (.int .u64 x1.2::.bool true::(cs++y)).toArray 192)∧w9.heap[MB]?=some (.cells #[.int .u64 ((m.s:Nat):Int),.int .u8 ((m.c:Nat):Int),.string rs,.string v,.bool false,.int .i64 0,.int .u64 0] 92):=⟨hAt.out _ _ hS9,hS9.nth 0 rfl⟩;replace hS9:=qh hS9;replace hcl2:=qh hcl2;replace hg:=qh hg;replace hgb:=qh hgb;go_wp2_with fail;refine hK.out _ _ (fun _ _=>hS9y) ?_;clear hHeld hK K;have hHeld:=hS9y;clear hS9y
   try simp only [Act.put,zs1,zs2,zs3]
   try simp only [Act.put]
   refine tkW 7 ?_;refine tkW 8 ?_;refine tkW 9 ?_;refine tkW 10 ?_;refine tkW 11 ?_;refine tkW 12 ?_;refine rdM 13 ?_;intro K hK;rw [if_pos (by rfl)];have hc:=hAt.out _ _ hS9.out;have hlen:cl.length=111:=by rw [hcl2.out];exact lfc_len hg.out.S
   have th:=mn_there (o:=2) (n:=cl.toArray.size) hc (by simp [hcl.out,hylen.out,hlen]);refine wp_store_mid 95 (.tmp 73) (.tmp 69) rfl q 2 cl.toArray (by rfl) (by rfl) th (by rw [List.size_toArray,hlen];kernel_rfl) (by rw [hcl2.out];exact lfc_one g) ?_;have hst:=mn_set_leaf hc (vs:=cl) (by rw [hlen,hcl.out]);have hN8:NewND (w9.setCells q 2 cl) 0 (leafN g):=NewND.leaf hg.out;obtain ⟨T3,hS10,ev3,f3,n3,l3,r3,g3⟩:=hS9.out.store (x:=leafN g) hnF.out hq.out hN8 (fun b hb=>by cases hb) (hb_upd w9 q 2 cl) (by rw [show (leafN g).cs=.bool true::(lfc g++zic) from rfl,← hcl2.out,← hy.out];exact hst);clear hst th hc hN8;rw [show cl.toArray.toList=cl from rfl];generalize w9.setCells q 2 cl=w10 at *;replace hS10:=qh hS10;replace ev3:=qh ev3;replace f3:=qh f3;replace n3:=qh n3;replace l3:=qh l3;replace r3:=qh r3;replace g3:=qh g3;replace hlen:=qh hlen;refine hK.out _ _ (fun h=>by cases h) ?_;clear hK K
   try simp only [Act.put,zs1,zs2,zs3]
   try simp only [Act.put]
   refine wpAnyM_done (by kernel_rfl) ?_ _
   try simp only [Exit.then]
   clear hSd;obtain ⟨A1,B1,hSI,_⟩:=h.out.leafSI hon.out.mem hR.out hx.out (slOf (keyAt key i) v) hS10.out.am f3.out (by rw [hgb.out,hm.out]) n3.out l3.out r3.out g3.out (.inr (by rw [← hnd9.out];exact hfr))
   have hSe9:Hid (Calls Tryz.prog 69 #[.pointer (some ⟨T.t,0,none⟩),.agg #[.int .i64 ((i:Nat):Int),.slice (some ⟨pa,0,none⟩) N pc,.int .i64 up.1,.int .u64 up.2,.int .u64 ((mk.s:Nat):Int),.int .u8 ((mk.c:Nat):Int)]] w10 fun e w'=>e=.returned (.tuple #[])∧PutL w0 w T Y C k pt key v w'):=qh (by
    have hpr3:T3.ρ pa=0:=(hS10.out.own (pa,po) (by simp)).2.2;have h9:=MF.settle (i:=i) (up:=up) (mk:=mk) (pc:=pc) hSI (h.out.wy.wb.slim l hon.out.mem) (hS10.out.nth 3 rfl) hpr3 (fun W hW=>by rw [← hN.out];exact hrow.out W hW) (by rw [← hN.out];omega) (by omega) (fun hi0=>hup.out.upOK hMOK.out hi0);rw [hS10.out.ev.t,← hN.out] at h9;refine h9.mono ?_;rintro e w' ⟨rfl,hF⟩;refine ⟨rfl,SetF.put h.out hon.out hup.out (fun so hs7=>?_) (hF.base hS10.out.ev n3.out l3.out r3.out)⟩;have e1:M.cget (content l.Ls) (mT (mkAt key i))=some so:=hs7;rw [show M.cget (content l.Ls) (mT (mkAt key i))=none from (by first | exact hisf.out rfl | exact hisf.out trivial)] at e1
    cases e1)
   clear hSI;obtain ⟨d0,d1,d2,d3,d4,d5,d6,d7⟩:=box6 (hS10.out.nth 2 rfl);go_wp2_with fail;refine hSe9.out.mono ?_;clear d0 d1 d2 d3 d4 d5 d6 d7;rintro z7 w11 ⟨rfl,hP⟩;replace hP:=qh hP;replace hcn:=hcn.out;obtain ⟨T4,Y4,hfin,hA4,hE4,hEv4,hn4⟩:=hP.out.mtw h.out;have hwr:IntKind.i64.wrap (((T4.n:Nat):Int)+1)=((T4.n:Nat):Int)+1:=IntWalk.i64_in _ (by rw [hn4,h.out.n];omega);have hblk:w11.heap[T.t]?=some (.cells (treeC T4.P.1 T4.d.A.a T4.r T4.n T4.ly) 73):=by have:=hA4.blk;rw [hE4.t] at this;exact this
   have c4:w11.cell? ⟨T.t,4,none⟩=some (.int .i64 ((T4.n:Nat):Int)):=by rw [cell_of_heap hblk];rfl
   have cf:=frozen_of_heap hblk;have ctl:=heap_lt hblk;have hu9:Upd [T4.t] w11 (w11.setCell ⟨T.t,4,none⟩ (.int .i64 (((T4.n:Nat):Int)+1))):=(Upd.refl [T4.t] w11).setCell (p:=⟨T.t,4,none⟩) (by rw [hE4.t];simp) _;have hb9:(w11.setCell ⟨T.t,4,none⟩ (.int .i64 (((T4.n:Nat):Int)+1))).heap[T4.t]?=some (.cells (treeC T4.P.1 T4.d.A.a T4.r (T4.n+1) T4.ly) 73):=by rw [hE4.t,heap_set_same hblk 4 _];rfl
   obtain ⟨a9,ev9⟩:=hA4.own T4.r (T4.n+1) T4.ly hu9 hb9;have hfinal:Hid (PutE w0 w T Y C k pt key v (.returned (.tuple #[.string ⟨#[]⟩,.bool false,.int .i64 0])) (w11.setCell ⟨T.t,4,none⟩ (.int .i64 (((T4.n:Nat):Int)+1)))):=qh (.inl ⟨by rw [hcn];rfl,_,Y4,hfin _ _ a9 rfl rfl rfl ?_,hE4.trans ev9,hEv4⟩)
   rotate_left 1
   ·show T4.n+1=_
    rw [hn4,h.out.n,cput_len h.out.ct.srt,hcn];rfl
   clear hu9 hb9 a9 ev9 hblk hfin hA4 hE4 hEv4;replace hn4:=qh hn4;replace hcn:=qh hcn;go_wp2_with fail;refine bodyPost_ret (v:=.tuple #[.string ⟨#[]⟩,.bool false,.int .i64 0]) (by simp [results,Tryz.results22,go_sem]) rfl ?_;exact hfinal.out
 ·by_cases hrr:s.rest=rs
  ·skip
   have hrq:(s.rest.toList == rs.toList)=true:=by rw [hrr];simp
   have hgi:=hist.out rfl;obtain ⟨hsm,hsok⟩:=hso.out rfl;rw [← hm.out] at hsm
   have hPo:Hid (∀ W,Calls Tryz.prog 64 #[.agg cs.toArray,.agg #[.int .u64 ((m.s:Nat):Int),.int .u8 ((m.c:Nat):Int),.string rs,.string v,.bool false,.int .i64 0,.int .u64 0]] W fun e w'=>∃ (cl:List Value) (g:LF),e=.returned (.tuple #[.agg cl.toArray,.agg #[.int .u64 ((s.m.s:Nat):Int),.int .u8 ((s.m.c:Nat):Int),.string s.rest,.string s.val,.bool s.deep,.int .i64 s.link.1,.int .u64 s.link.2],.bool true])∧cl=lfc g∧LFOK g∧g.bn=f.bn.put (mT m) (slOf (keyAt key i) v)∧Below W.heap.size W w'):=qh fun W=>by
    have h9:=lfPut_any f hf.out (slOf (keyAt key i) v) (slOf_ok _ v) (by rw [hs9.out,← hm.out];rw [hm.out];exact hcov.out) (fun _=>by have:=hfn.out;omega) W;rw [hs9.out,← hm.out,← hcse.out] at h9;have hh:=hhas.out;rw [← hm.out] at hh;simp only [hh] at h9;refine h9.mono ?_;rintro e w' ⟨cl,co,g,o,rfl,a1,a2,a3,a4,a5,a6⟩;have ho:o=s:=by have e1:=hget.out;rw [← hm.out,hh,if_pos rfl,a5 trivial,hm.out,hgi.1] at e1;injection e1 with e1;exact e1.symm
    subst ho;exact ⟨cl,g,by rw [a2];rfl,a1,a3,by rw [a4,hs9.out,← hm.out],a6⟩
   have hgi2:=qh hgi;clear hgi;have hrr2:=qh hrr;clear hrr;replace hsm:=qh hsm;replace hsok:=qh hsok;obtain ⟨s0a,s1a,s2a,s3a,s4a,s5a,s6a,s7a⟩:=box7 (hS5.out.nth 0 rfl);go_upto_region 13 with fail;clear s0a s1a s2a s3a s4a s5a s6a s7a;rw [← hw6.out,← hMB.out];have hSd:=hS6.out.drew;refine wp_region_late [13,14] (S:=fun W'=>W'.heap[q]?=some (.cells (.int .u64 x1.2::.bool true::(cs++y)).toArray 192)∧W'.heap[MB]?=some (.cells #[.int .u64 ((m.s:Nat):Int),.int .u8 ((m.c:Nat):Int),.string rs,.string v,.bool false,.int .i64 0,.int .u64 0] 92)) rfl (⟨hAt.out _ _ hSd,hSd.nth 0 rfl⟩) (fun hHeld=>?_)
   try dsimp only at hHeld
   generalize w6.drew=w6d at *;refine tkW 0 ?_;refine tkW 1 ?_;refine tkW 2 ?_;refine tkW 3 ?_;refine ykM 4 ?_ (hy:=yieldsIf_load_mid (by rfl) 95 (.tmp 90) rfl q 2 (by rfl) cs _ (fun w hw=>range_mid hw.1 hcl.out) Tryz.underlying95 rfl (by rw [hcl.out];kernel_rfl));refine tkM 5 ?_ (hz:=by rintro w ⟨e1,e2⟩;obtain ⟨b0,b1,b2,b3,b4,b5,b6,b7⟩:=box7 e2;exact zf);refine rdM 6 ?_;intro K hK;go_simp;go_at_call 64;refine (hPo.out _).mono ?_;rintro z6 w7 ⟨cl,g,rfl,hcl2,hg,hgb,hb⟩;have hS7:=hSd.below hb;clear hb;have hS9y:w7.heap[q]?=some (.cells (.int .u64 x1.2::.bool true::(cs++y)).toArray 192)∧w7.heap[MB]?=some (.cells #[.int .u64 ((m.s:Nat):Int),.int .u8 ((m.c:Nat):Int),.string rs,.string v,.bool false,.int .i64 0,.int .u64 0] 92):=⟨hAt.out _ _ hS7,hS7.nth 0 rfl⟩;replace hS7:=qh hS7;replace hcl2:=qh hcl2;replace hg:=qh hg;replace hgb:=qh hgb;go_wp2_with fail;refine hK.out _ _ (fun _ _=>hS9y) ?_;clear hHeld hK K;have hHeld:=hS9y;clear hS9y
   try simp only [Act.put,zs1,zs2,zs3]
   try simp only [Act.put]
   refine tkW 7 ?_;refine tkW 8 ?_;refine tkW 9 ?_;refine tkW 10 ?_;refine tkW 11 ?_;refine tkW 12 ?_;refine rdM 13 ?_;intro K hK;rw [if_pos (by rfl)];have hc:=hAt.out _ _ hS7.out;have hlen:cl.length=111:=by rw [hcl2.out];exact lfc_len hg.out.S
   have th:=mn_there (o:=2) (n:=cl.toArray.size) hc (by simp [hcl.out,hylen.out,hlen]);refine wp_store_mid 95 (.tmp 98) (.tmp 94) rfl q 2 cl.toArray (by rfl) (by rfl) th (by rw [List.size_toArray,hlen];kernel_rfl) (by rw [hcl2.out];exact lfc_one g) ?_;have hst:=mn_set_leaf hc (vs:=cl) (by rw [hlen,hcl.out]);have hN8:NewND (w7.setCells q 2 cl) 0 (leafN g):=NewND.leaf hg.out;obtain ⟨T3,hS8,ev3,f3,n3,l3,r3,g3⟩:=hS7.out.store (x:=leafN g) hnF.out hq.out hN8 (fun b hb=>by cases hb) (hb_upd w7 q 2 cl) (by rw [show (leafN g).cs=.bool true::(lfc g++zic) from rfl,← hcl2.out,← hy.out];exact hst);clear hst th hc hN8;rw [show cl.toArray.toList=cl from rfl];generalize w7.setCells q 2 cl=w8 at *;replace hS8:=qh hS8;replace ev3:=qh ev3;replace f3:=qh f3;replace n3:=qh n3;replace l3:=qh l3;replace r3:=qh r3;replace g3:=qh g3;replace hlen:=qh hlen;refine hK.out _ _ (fun h=>by cases h) ?_;clear hK K
   try simp only [Act.put,zs1,zs2,zs3]
   try simp only [Act.put]
   refine rdM 14 ?_;intro K hK;rw [if_pos (by rfl)];have hSx:=hS8.out.rot [_] _ _;refine wp_store_mid 92 (.tmp 10) (.tmp 95) rfl SB 0 #[.int .u64 ((s.m.s:Nat):Int),.int .u8 ((s.m.c:Nat):Int),.string s.rest,.string s.val,.bool s.deep,.int .i64 s.link.1,.int .u64 s.link.2] (by rfl) (by rfl) (hb_thereA (hSx.nth 0 rfl) (by simp)) (by kernel_rfl) (all_oneCell_toArray (cs:=[.int .u64 ((s.m.s:Nat):Int),.int .u8 ((s.m.c:Nat):Int),.string s.rest,.string s.val,.bool s.deep,.int .i64 s.link.1,.int .u64 s.link.2]) (by intro v hv;simp only [List.mem_cons,List.not_mem_nil,or_false] at hv;rcases hv with rfl | rfl | rfl | rfl | rfl | rfl | rfl <;> rfl)) ?_;have hS9:=hSx.setV [.int .u64 ((s.m.s:Nat):Int),.int .u8 ((s.m.c:Nat):Int),.string s.rest,.string s.val,.bool s.deep,.int .i64 s.link.1,.int .u64 s.link.2] (by simp);rw [show (#[.int .u64 ((s.m.s:Nat):Int),.int .u8 ((s.m.c:Nat):Int),.string s.rest,.string s.val,.bool s.deep,.int .i64 s.link.1,.int .u64 s.link.2]:Array Value).toList=[.int .u64 ((s.m.s:Nat):Int),.int .u8 ((s.m.c:Nat):Int),.string s.rest,.string s.val,.bool s.deep,.int .i64 s.link.1,.int .u64 s.link.2] from rfl];generalize w8.setCells SB 0 [.int .u64 ((s.m.s:Nat):Int),.int .u8 ((s.m.c:Nat):Int),.string s.rest,.string s.val,.bool s.deep,.int .i64 s.link.1,.int .u64 s.link.2]=w9 at *;clear hSx;replace hS9:=qh hS9;refine hK.out _ _ (fun h=>by cases h) ?_;clear hK K
   try simp only [Act.put,zs1,zs2,zs3]
   try simp only [Act.put]
   refine wpAnyM_done (by kernel_rfl) ?_ _
   try simp only [Exit.then]
   clear hSd;obtain ⟨s0a,s1a,s2a,s3a,s4a,s5a,s6a,s7a⟩:=box7 (hS9.out.nth 0 rfl);go_wp2_with fail;refine bodyPost_ret (v:=.tuple #[.string s.val,.bool true,.int .i64 0]) (by simp [results,Tryz.results22,go_sem]) rfl ?_;have hgi:=hgi2.out;have hrr:=hrr2.out;have hkm:=hhas.out;have hRx:=hx.out
   have hP:PutL w0 w T Y C k pt key v w9:=by
    obtain ⟨A1,B1,_,hSI⟩:=h.out.leafSI hon.out.mem hR.out hRx (slOf (keyAt key i) v) hS9.out.am f3.out (by rw [hgb.out,hm.out]) n3.out l3.out r3.out g3.out (.inl hkm);refine SetF.put h.out hon.out hup.out (fun so hs7=>?_) (SI.old h.out hon.out.mem hR.out hRx hkm hSI hS9.out.ev);have e1:M.cget (content l.Ls) (mT (mkAt key i))=some so:=hs7;rw [hgi.1] at e1;injection e1 with e1;subst e1;exact ⟨hgi.2,by rw [hs9.out];exact hrr⟩
   have hcc:=hcg.out;rw [if_pos ⟨by first | rfl | trivial,hrr⟩] at hcc;obtain ⟨T4,Y4,hfin,hA4,hE4,hEv4,hn4⟩:=hP.mtw h.out;refine .inl ⟨by rw [hcc];rfl,T4,Y4,hfin _ _ hA4 rfl rfl rfl ?_,hE4,hEv4⟩;rw [hn4,h.out.n,cput_len h.out.ct.srt,hcc];rfl
  ·skip
   have hrq:(s.rest.toList == rs.toList)=false:=by have:¬ s.rest.toList=rs.toList:=fun e=>hrr (toList_inj e);simpa using this
   obtain ⟨hsm,hsok⟩:=hso.out rfl;obtain ⟨hg9,hd9⟩:=hist.out rfl;have hne9:bl s.rest≠keyAt key (i+1):=fun e=>hrr (by rw [hrs.out,← e,bs_bl])
   obtain ⟨_,c9,c3,c4,_,_⟩:=clash hMOK.out hon.out hg9 hd9 hne9;have hcn:M.cget C key=none:=by rw [hcg.out,if_neg (fun e=>hrr e.2)]
   have hrb:bl rs=keyAt key (i+1):=by rw [hrs.out,bl_bs]
   have hsz1:s.rest.size≤100000000:=by have h9:=h.out.wy.wb.rst l hon.out.mem _ ((hMOK.out.cget hon.out.mem).1 hg9);have e:(bl s.rest).length=s.rest.size:=rfl;simp only at h9;omega
   have hsz2:rs.size≤100000000:=by have e:(bl rs).length=rs.size:=rfl;have:=keyAt_len key (i+1);rw [hrb] at e;omega
   obtain ⟨a,ha⟩:∃ a,a=alk (bl s.rest) (bl rs):=⟨_,rfl⟩;have hal9:=alk_lt _ _ _ (Nat.le_refl _) c3 c4;rw [← hrb,← ha] at hal9;have hasz:a≤100000000:=by have e:(bl s.rest).length=s.rest.size:=rfl;omega
   have hAk:=qh fun W=>mtAlike_any s.rest rs hsz1 hsz2 W
   rw [← ha] at hAk;have hwa:IntKind.i64.wrap (1+((a:Nat):Int))=((1+a:Nat):Int):=by rw [show 1+((a:Nat):Int)=((1+a:Nat):Int) by omega];exact IntWalk.i64_in _ (by omega)
   obtain ⟨rm,hrm⟩:∃ b,b=decide (((1+a:Nat):Int)≤((T.free.count true:Nat):Int)):=⟨_,rfl⟩;have hRm:Hid (∀ W L,MS w0 w T W T L→Calls Tryz.prog 65 #[.pointer (some ⟨T.P.1,0,none⟩),.int .i64 ((1+a:Nat):Int)] W fun e w'=>e=.returned (.bool rm)∧Below W.heap.size W w'):=qh fun W L hS=>by rw [hrm];exact pRoom_any T.P.1 T.P.2.1 T.P.2.2 T.gens T.free _ W hS.am.bw.ars.pool.1
   replace hsm:=qh hsm;replace hsok:=qh hsok;replace hg9:=qh hg9;replace hd9:=qh hd9;replace hne9:=qh hne9;replace c9:=qh c9;replace c3:=qh c3;replace c4:=qh c4;replace hcn:=qh hcn;replace hrb:=qh hrb;replace ha:=qh ha;replace hal9:=qh hal9;replace hrm:=qh hrm;replace hsz1:=qh hsz1;replace hsz2:=qh hsz2;obtain ⟨s0a,s1a,s2a,s3a,s4a,s5a,s6a,s7a⟩:=box7 (hS5.out.nth 0 rfl);go_upto_region 16 with fail;clear s0a s1a s2a s3a s4a s5a s6a s7a;rw [← hw6.out,← hMB.out];have hSd:=hS6.out.drew;refine wp_region_late [] (S:=fun W'=>W'.cell? ⟨T.t,0,none⟩=some (.pointer (some ⟨T.P.1,0,none⟩))∧W'.heap[SB]?=some (.cells #[.int .u64 ((s.m.s:Nat):Int),.int .u8 ((s.m.c:Nat):Int),.string s.rest,.string s.val,.bool s.deep,.int .i64 s.link.1,.int .u64 s.link.2] 92)∧W'.heap[MB]?=some (.cells #[.int .u64 ((m.s:Nat):Int),.int .u8 ((m.c:Nat):Int),.string rs,.string v,.bool false,.int .i64 0,.int .u64 0] 92)) rfl (⟨hSd.pool,hSd.nth 1 rfl,hSd.nth 0 rfl⟩) (fun hHeld=>?_)
   try dsimp only at hHeld
   refine tkW 0 ?_;refine tkW 1 ?_;refine tkW 2 ?_;refine tkM 3 ?_ (hz:=by rintro w ⟨e0,e1,e2⟩;obtain ⟨a0,a1,a2,a3,a4,a5,a6,a7⟩:=box7 e1;obtain ⟨b0,b1,b2,b3,b4,b5,b6,b7⟩:=box7 e2;exact zf);refine tkW 4 ?_;refine tkM 5 ?_ (hz:=by rintro w ⟨e0,e1,e2⟩;obtain ⟨a0,a1,a2,a3,a4,a5,a6,a7⟩:=box7 e1;obtain ⟨b0,b1,b2,b3,b4,b5,b6,b7⟩:=box7 e2;exact zf);refine tkW 6 ?_;refine tkM 7 ?_ (hz:=by rintro w ⟨e0,e1,e2⟩;obtain ⟨a0,a1,a2,a3,a4,a5,a6,a7⟩:=box7 e1;obtain ⟨b0,b1,b2,b3,b4,b5,b6,b7⟩:=box7 e2;exact zf);refine rdM 8 ?_;intro K hK;go_simp;go_at_call 66;refine (hAk.out _).mono ?_;rintro z6 w7 ⟨rfl,hb⟩;have hS7:=hSd.below hb;clear hb;have hS9y:w7.cell? ⟨T.t,0,none⟩=some (.pointer (some ⟨T.P.1,0,none⟩))∧w7.heap[SB]?=some (.cells #[.int .u64 ((s.m.s:Nat):Int),.int .u8 ((s.m.c:Nat):Int),.string s.rest,.string s.val,.bool s.deep,.int .i64 s.link.1,.int .u64 s.link.2] 92)∧w7.heap[MB]?=some (.cells #[.int .u64 ((m.s:Nat):Int),.int .u8 ((m.c:Nat):Int),.string rs,.string v,.bool false,.int .i64 0,.int .u64 0] 92):=⟨hS7.pool,hS7.nth 1 rfl,hS7.nth 0 rfl⟩;replace hS7:=qh hS7;go_wp2_with fail;refine hK.out _ _ (fun _ _=>hS9y) ?_;clear hHeld hK K;have hHeld:=hS9y;clear hS9y
   try simp only [Act.put,zs1,zs2,zs3]
   try simp only [Act.put]
   refine tkW 9 ?_;refine rdM 10 ?_;intro K hK;go_simp;go_at_call 65;refine (hRm.out _ _ hS7.out).mono ?_;rintro z6 w8 ⟨rfl,hb⟩;have hS8:=hS7.out.below hb;clear hb;have hS9y:w8.cell? ⟨T.t,0,none⟩=some (.pointer (some ⟨T.P.1,0,none⟩))∧w8.heap[SB]?=some (.cells #[.int .u64 ((s.m.s:Nat):Int),.int .u8 ((s.m.c:Nat):Int),.string s.rest,.string s.val,.bool s.deep,.int .i64 s.link.1,.int .u64 s.link.2] 92)∧w8.heap[MB]?=some (.cells #[.int .u64 ((m.s:Nat):Int),.int .u8 ((m.c:Nat):Int),.string rs,.string v,.bool false,.int .i64 0,.int .u64 0] 92):=⟨hS8.pool,hS8.nth 1 rfl,hS8.nth 0 rfl⟩;replace hS8:=qh hS8;go_wp2_with fail;refine hK.out _ _ (fun _ _=>hS9y) ?_;clear hHeld hK K;have hHeld:=hS9y;clear hS9y
   try simp only [Act.put,zs1,zs2,zs3]
   try simp only [Act.put]
   refine tkW 11 ?_;refine wpAnyM_done (by kernel_rfl) ?_ _
   try simp only [Exit.then]
   clear hHeld hSd
   cases rm
   ·skip
    go_wp2_with fail;refine bodyPost_ret (v:=.tuple #[.string ⟨#[]⟩,.bool false,.int .i64 5]) (by simp [results,Tryz.results22,go_sem]) rfl ?_;exact .inr ⟨rfl,hcn.out,h.out.fullD hon.out hg9.out hd9.out hne9.out (by have h9:=hrm.out;have h8:=ha.out;rw [hrb.out] at h8;rw [← h8];simp at h9;omega),hS8.out.am,hS8.out.ev⟩
   ·skip
    have hfr:a+1≤T.free.count true:=by have h9:=hrm.out;simp at h9;omega
    have hBo:Hid (∀ W L,MS w0 w T W T L→Calls Tryz.prog 67 #[.pointer (some ⟨T.t,0,none⟩),.string s.rest,.string s.val,.string rs,.string v] W fun e w'=>∃ (h2:Hd) (hs2:List Hd) (T2:TS) (N:NF),e=.returned (.agg #[.int .i64 h2.1,.int .u64 h2.2])∧hs2.length=a∧MS w0 w T w' T2 L∧TEv W w' T T2∧T2.F=T.F++N∧(∀ p,(N.map fun z=>(z.1,z.2.bn))=flat (bothN p (bl s.rest) (bl rs) s.val v (h2::hs2)))∧(∀ z,z∈N→(∃ f,z.2.k=.leaf f)∨∃ b,z.2.k=.inn b)∧T2.ly=T.ly+(a+1)∧T2.n=T.n∧T2.r=T.r):=qh fun W L hS=>by
     refine (AM.both a s.rest rs s.val v W T ha.out.symm hS.am hsz1.out hsz2.out (by rw [hrb.out];exact hne9.out) c3.out (by rw [hrb.out];exact c4.out) hfr (by rw [h.out.ly];have:=h.out.yl;omega)).mono ?_;rintro e w' ⟨h2,hs2,T2,N,rfl,a1,a2,a3,a4,a5,a6,a7,a8,a9,_⟩;exact ⟨h2,hs2,T2,N,rfl,a1,hS.call a2 a3,a3,a4,a5,a6,a7,a8,a9⟩
    have hPd:Hid (∀ (h2:Hd) W,Calls Tryz.prog 64 #[.agg cs.toArray,.agg #[.int .u64 ((m.s:Nat):Int),.int .u8 ((m.c:Nat):Int),.string ⟨#[]⟩,.string ⟨#[]⟩,.bool true,.int .i64 h2.1,.int .u64 h2.2]] W fun e w'=>∃ (cl co:List Value) (g:LF),e=.returned (.tuple #[.agg cl.toArray,.agg co.toArray,.bool true])∧cl=lfc g∧LFOK g∧g.bn=f.bn.put (mT m) ⟨m,s0,s0,true,h2⟩∧Below W.heap.size W w'):=qh fun h2 W=>by
     have h9:=lfPut_any f hf.out ⟨m,s0,s0,true,h2⟩ ⟨by rw [hm.out];exact hmk.out,fun _=>⟨by show m.c=9;rw [hm.out,← hsm.out];exact c9.out,rfl,rfl⟩,fun e=>(by cases e)⟩ (by show f.cov m=true;rw [hm.out];exact hcov.out) (fun _=>by have:=hfn.out;omega) W;have hh:=hhas.out;rw [← hm.out] at hh;simp only [hh] at h9;rw [← hcse.out] at h9;refine h9.mono ?_;rintro e w' ⟨cl,co,g,o,rfl,a1,a2,a3,a4,a5,a6⟩;exact ⟨cl,co,g,rfl,a1,a3,a4,a6⟩
    go_upto_region 18 with fail;have hSd:=hS8.out.drew;refine wp_region_late [24] (S:=fun W'=>W'.heap[q]?=some (.cells (.int .u64 x1.2::.bool true::(cs++y)).toArray 192)∧W'.heap[SB]?=some (.cells #[.int .u64 ((s.m.s:Nat):Int),.int .u8 ((s.m.c:Nat):Int),.string s.rest,.string s.val,.bool s.deep,.int .i64 s.link.1,.int .u64 s.link.2] 92)∧W'.heap[MB]?=some (.cells #[.int .u64 ((m.s:Nat):Int),.int .u8 ((m.c:Nat):Int),.string rs,.string v,.bool false,.int .i64 0,.int .u64 0] 92)) rfl (⟨hAt.out _ _ hSd,hSd.nth 1 rfl,hSd.nth 0 rfl⟩) (fun hHeld=>?_)
    try dsimp only at hHeld
    refine tkW 0 ?_;refine tkW 1 ?_;refine tkW 2 ?_;refine tkW 3 ?_;refine ykM 4 ?_ (hy:=yieldsIf_load_mid (by rfl) 95 (.tmp 119) rfl q 2 (by rfl) cs _ (fun w hw=>range_mid hw.1 hcl.out) Tryz.underlying95 rfl (by rw [hcl.out];kernel_rfl));refine tkW 5 ?_;refine tkM 6 ?_ (hz:=by rintro w ⟨e0,e1,e2⟩;obtain ⟨a0,a1,a2,a3,a4,a5,a6,a7⟩:=box7 e1;obtain ⟨b0,b1,b2,b3,b4,b5,b6,b7⟩:=box7 e2;exact zf);refine tkW 7 ?_;refine tkW 8 ?_;refine tkM 9 ?_ (hz:=by rintro w ⟨e0,e1,e2⟩;obtain ⟨a0,a1,a2,a3,a4,a5,a6,a7⟩:=box7 e1;obtain ⟨b0,b1,b2,b3,b4,b5,b6,b7⟩:=box7 e2;exact zf);refine tkW 10 ?_;refine tkM 11 ?_ (hz:=by rintro w ⟨e0,e1,e2⟩;obtain ⟨a0,a1,a2,a3,a4,a5,a6,a7⟩:=box7 e1;obtain ⟨b0,b1,b2,b3,b4,b5,b6,b7⟩:=box7 e2;exact zf);refine tkW 12 ?_;refine tkM 13 ?_ (hz:=by rintro w ⟨e0,e1,e2⟩;obtain ⟨a0,a1,a2,a3,a4,a5,a6,a7⟩:=box7 e1;obtain ⟨b0,b1,b2,b3,b4,b5,b6,b7⟩:=box7 e2;exact zf);refine tkW 14 ?_;refine rdM 15 ?_;intro K hK;go_simp;go_at_call 67;refine (hBo.out _ _ hSd).mono ?_;rintro z6 w9 ⟨h2,hs2,T2,N2,rfl,hl2,hS9,ev2,f2,hN2,hkN,l2,n2,r2⟩;have hq2:=hq.out.ev ev2;have hm2:(x1,nd)∈T2.F:=by rw [f2];exact List.mem_append_left _ hnF.out
    have hAt2:Hid (∀ W L,MS w0 w T W T2 L→W.heap[q]?=some (.cells (.int .u64 x1.2::.bool true::(cs++y)).toArray 192)):=qh fun W L hS=>by have:=hS.am.at hm2 hq2;rw [hcs.out,← hcse.out,← hy.out] at this;exact this
    have hS9y:w9.heap[q]?=some (.cells (.int .u64 x1.2::.bool true::(cs++y)).toArray 192)∧w9.heap[SB]?=some (.cells #[.int .u64 ((s.m.s:Nat):Int),.int .u8 ((s.m.c:Nat):Int),.string s.rest,.string s.val,.bool s.deep,.int .i64 s.link.1,.int .u64 s.link.2] 92)∧w9.heap[MB]?=some (.cells #[.int .u64 ((m.s:Nat):Int),.int .u8 ((m.c:Nat):Int),.string rs,.string v,.bool false,.int .i64 0,.int .u64 0] 92):=⟨hAt2.out _ _ hS9,hS9.nth 1 rfl,hS9.nth 0 rfl⟩;replace hS9:=qh hS9;replace ev2:=qh ev2;replace f2:=qh f2;replace hN2:=qh hN2;replace hkN:=qh hkN;replace l2:=qh l2;replace n2:=qh n2;replace r2:=qh r2;replace hq2:=qh hq2;replace hm2:=qh hm2;replace hl2:=qh hl2;go_wp2_with fail;refine hK.out _ _ (fun _ _=>hS9y) ?_;clear hHeld hK K;have hHeld:=hS9y;clear hS9y
    try simp only [Act.put,zs1,zs2,zs3]
    try simp only [Act.put]
    refine tkW 16 ?_;refine rdM 17 ?_;intro K hK;go_simp;go_at_call 64;refine (hPd.out h2 _).mono ?_;rintro z6 w10 ⟨cl,co,g,rfl,hcl2,hg,hgb,hb⟩;have hS10:=hS9.out.below hb;clear hb;have hS9y:w10.heap[q]?=some (.cells (.int .u64 x1.2::.bool true::(cs++y)).toArray 192)∧w10.heap[SB]?=some (.cells #[.int .u64 ((s.m.s:Nat):Int),.int .u8 ((s.m.c:Nat):Int),.string s.rest,.string s.val,.bool s.deep,.int .i64 s.link.1,.int .u64 s.link.2] 92)∧w10.heap[MB]?=some (.cells #[.int .u64 ((m.s:Nat):Int),.int .u8 ((m.c:Nat):Int),.string rs,.string v,.bool false,.int .i64 0,.int .u64 0] 92):=⟨hAt2.out _ _ hS10,hS10.nth 1 rfl,hS10.nth 0 rfl⟩;replace hS10:=qh hS10;replace hcl2:=qh hcl2;replace hg:=qh hg;replace hgb:=qh hgb;go_wp2_with fail;refine hK.out _ _ (fun _ _=>hS9y) ?_;clear hHeld hK K;have hHeld:=hS9y;clear hS9y
    try simp only [Act.put,zs1,zs2,zs3]
    try simp only [Act.put]
    refine tkW 18 ?_;refine tkW 19 ?_;refine tkW 20 ?_;refine tkW 21 ?_;refine tkW 22 ?_;refine tkW 23 ?_;refine rdM 24 ?_;intro K hK;rw [if_pos (by rfl)];have hc:=hAt2.out _ _ hS10.out;have hlen:cl.length=111:=by rw [hcl2.out];exact lfc_len hg.out.S
    have th:=mn_there (o:=2) (n:=cl.toArray.size) hc (by simp [hcl.out,hylen.out,hlen]);refine wp_store_mid 95 (.tmp 138) (.tmp 134) rfl q 2 cl.toArray (by rfl) (by rfl) th (by rw [List.size_toArray,hlen];kernel_rfl) (by rw [hcl2.out];exact lfc_one g) ?_;have hst:=mn_set_leaf hc (vs:=cl) (by rw [hlen,hcl.out]);have hN8:NewND (w10.setCells q 2 cl) 0 (leafN g):=NewND.leaf hg.out;obtain ⟨T3,hS11,ev3,f3,n3,l3,r3,g3⟩:=hS10.out.store (x:=leafN g) hm2.out hq2.out hN8 (fun b hb=>by cases hb) (hb_upd w10 q 2 cl) (by rw [show (leafN g).cs=.bool true::(lfc g++zic) from rfl,← hcl2.out,← hy.out];exact hst);clear hst th hc hN8;rw [show cl.toArray.toList=cl from rfl];generalize w10.setCells q 2 cl=w11 at *;replace hS11:=qh hS11;replace ev3:=qh ev3;replace f3:=qh f3;replace n3:=qh n3;replace l3:=qh l3;replace r3:=qh r3;replace g3:=qh g3;replace hlen:=qh hlen;refine hK.out _ _ (fun h=>by cases h) ?_;clear hK K
    try simp only [Act.put,zs1,zs2,zs3]
    try simp only [Act.put]
    refine wpAnyM_done (by kernel_rfl) ?_ _
    try simp only [Exit.then]
    clear hSd;have hP:PutL w0 w T Y C k pt key v w11:=h.out.deepL hon.out hg9.out hd9.out hne9.out hR.out (by rw [hsm.out];exact hx.out) (by rw [hsm.out];exact hhas.out) (by rw [hl2.out,ha.out,hrb.out]) f2.out (by rw [← hrb.out];exact hN2.out) hkN.out hS9.out.am hS11.out.am f3.out (by rw [hgb.out,hsm.out,hm.out]) (n3.out.trans n2.out) (by rw [l3.out,l2.out,hl2.out]) (r3.out.trans r2.out) hS11.out.ev;replace hP:=qh hP;replace hcn:=hcn.out;obtain ⟨T4,Y4,hfin,hA4,hE4,hEv4,hn4⟩:=hP.out.mtw h.out;have hwr:IntKind.i64.wrap (((T4.n:Nat):Int)+1)=((T4.n:Nat):Int)+1:=IntWalk.i64_in _ (by rw [hn4,h.out.n];omega);have hblk:w11.heap[T.t]?=some (.cells (treeC T4.P.1 T4.d.A.a T4.r T4.n T4.ly) 73):=by have:=hA4.blk;rw [hE4.t] at this;exact this
    have c4:w11.cell? ⟨T.t,4,none⟩=some (.int .i64 ((T4.n:Nat):Int)):=by rw [cell_of_heap hblk];rfl
    have cf:=frozen_of_heap hblk;have ctl:=heap_lt hblk;have hu9:Upd [T4.t] w11 (w11.setCell ⟨T.t,4,none⟩ (.int .i64 (((T4.n:Nat):Int)+1))):=(Upd.refl [T4.t] w11).setCell (p:=⟨T.t,4,none⟩) (by rw [hE4.t];simp) _;have hb9:(w11.setCell ⟨T.t,4,none⟩ (.int .i64 (((T4.n:Nat):Int)+1))).heap[T4.t]?=some (.cells (treeC T4.P.1 T4.d.A.a T4.r (T4.n+1) T4.ly) 73):=by rw [hE4.t,heap_set_same hblk 4 _];rfl
    obtain ⟨a9,ev9⟩:=hA4.own T4.r (T4.n+1) T4.ly hu9 hb9;have hfinal:Hid (PutE w0 w T Y C k pt key v (.returned (.tuple #[.string ⟨#[]⟩,.bool false,.int .i64 0])) (w11.setCell ⟨T.t,4,none⟩ (.int .i64 (((T4.n:Nat):Int)+1)))):=qh (.inl ⟨by rw [hcn];rfl,_,Y4,hfin _ _ a9 rfl rfl rfl ?_,hE4.trans ev9,hEv4⟩)
    rotate_left 1
    ·show T4.n+1=_
     rw [hn4,h.out.n,cput_len h.out.ct.srt,hcn];rfl
    clear hu9 hb9 a9 ev9 hblk hfin hA4 hE4 hEv4;replace hn4:=qh hn4;replace hcn:=qh hcn;go_wp2_with fail;refine bodyPost_ret (v:=.tuple #[.string ⟨#[]⟩,.bool false,.int .i64 0]) (by simp [results,Tryz.results22,go_sem]) rfl ?_;exact hfinal.out
open Go.RowKit
section
variable {w0 w w' w1:World} {ρ:Nat→Nat} {P:Nat×Nat×Nat} {gens:List Int} {free:List Bool} {D:List ArD} {T T1:TS}
def T00 (ρ:Nat→Nat) (P:Nat×Nat×Nat) (gens:List Int) (free:List Bool) (D:List ArD) (a m t:Nat):TS :=
 ⟨ρ,P,gens,free,D++[⟨162,192,⟨a,m,[],0⟩⟩],D.length,t,⟨162,192,⟨a,m,[],0⟩⟩,(0,0),0,0,[]⟩
theorem am_start {a m : Nat} (hB : BW w0 w ρ P gens free (D ++ [⟨162, 192, ⟨a, m, [], 0⟩⟩])) (hcnt : free.count true + (D.map fun d => d.A.L.length).sum = free.length) :
    AM w0 (w.alloc (.cells (treeC P.1 a (0,0) 0 0) 73)) (T00 (mark ρ w.heap.size 4) P gens free D a m w.heap.size)∧RU [] w (w.alloc (.cells (treeC P.1 a (0,0) 0 0) 73)) ρ (mark ρ w.heap.size 4):=by
 have hb:=(Below.refl w.heap.size w).alloc (Nat.le_refl _) (.cells (treeC P.1 a (0,0) 0 0) 73)
 have hU:=(RU.below (rs:=[]) hB.ro hb).mark (b:=w.heap.size) (r:=4) (Nat.le_refl _) (heap_lt (heap_alloc_new _ _))
 refine ⟨⟨hB.ru hU (by simp),by simp [T00],rfl,rfl,mark_self,heap_alloc_new _ _,fun x hx=>by simp [T00] at hx,fun x hx=>by simp [T00] at hx,List.nodup_nil,rfl,fun j d' e e' _ _ _ he'=>by simp [T00] at he',?_⟩,hU⟩
 simp only [T00,List.map_append,List.sum_append]
 simpa using hcnt
def ly0 (g:Hd):Ly:=⟨[],[[(g,lf0)]],g⟩
theorem wy0 (g:Hd):WY [ly0 g] 1 0∧MCt [ly0 g] []:=by
 obtain ⟨t1,t2⟩:=one_tower (h:=g) lf0_ok rfl rfl rfl
 have hc:content (ly0 g).Ls=[]:=t2
 have hm:∀ l,l∈[ly0 g]→l=ly0 g:=fun l hl=>List.mem_singleton.1 hl
 refine ⟨⟨⟨fun l hl=>?_,fun l hl x hx=>?_,by simp,⟨_,_,rfl,rfl⟩,fun l hl x hx=>?_,fun l hl hne=>?_,fun l hl hne=>?_⟩,⟨fun l hl=>?_,fun l hl=>?_,fun l hl=>?_,fun l hl=>?_,fun l hl x hx=>?_,?_,?_⟩⟩,⟨List.Pairwise.nil,fun k v=>⟨fun h=>(by cases h),?_⟩⟩⟩
 ·rw [hm l hl];exact t1
 ·rw [hm l hl,hc] at hx;cases hx
 ·rw [hm l hl,hc] at hx;cases hx
 ·rw [hm l hl] at hne;exact absurd rfl hne
 ·rw [hm l hl] at hne;exact absurd rfl hne
 ·rw [hm l hl]
  intro i R hR x hx
  cases i with
  | zero =>
   have:R=[(g,lf0)]:=by simpa [ly0] using hR.symm
   subst this;rw [List.mem_singleton.1 hx];exact Nat.zero_le _
  | succ i=>simp [ly0] at hR
 ·rw [hm l hl]
  intro i R hR hi;rw [show (ly0 g).Ls=[[(g,lf0)]] from rfl,List.getElem?_eq_none (by simp;omega)] at hR
  cases hR
 ·rw [hm l hl];exact ⟨lf0,rfl⟩
 ·rw [hm l hl];exact Nat.le_refl _
 ·rw [hm l hl,hc] at hx;cases hx
 ·exact Nat.le_refl _
 ·show 16*0+(ptL (ly0 g)+0)≤0
  unfold ptL;rw [hc];exact Nat.le_refl _
 ·rintro ⟨l,hl,x,hx,_⟩
  rw [hm l hl,hc] at hx
  cases hx
theorem MTw.one {g:Hd} (hA:AM w0 w T) (hF:T.F=[(g,newN)]) (hr:T.r=g) (hn:T.n=0) (hly:T.ly=1):MTw w0 w T [ly0 g] [] 0 0:=by
 obtain ⟨a,b⟩:=wy0 g
 refine ⟨⟨hA,?_,fun x hx=>?_⟩,a,b,⟨_,_,rfl,hr.symm⟩,hly,hn⟩
 ·rw [hF]
  exact List.Perm.refl _
 ·rw [hF] at hx
  rw [List.mem_singleton.1 hx];exact .inl ⟨newLF,rfl⟩
def NewS (w0 w:World) (ρ:Nat→Nat) (P:Nat×Nat×Nat) (free:List Bool) (D:List ArD) (e:Ending) (w':World):Prop :=
 ∃ T g,e=.returned (.tuple #[.pointer (some ⟨T.t,0,none⟩),.int .i64 0])∧MTw w0 w' T [ly0 g] [] 0 0∧T.P=P∧T.i=D.length∧T.free.count true+1=free.count true∧T.free.length=free.length ∧
  RU [1,2,3,4,10+3*D.length,12+3*D.length] w w' ρ T.ρ∧T.D.length=D.length+1∧∀ j,j < D.length→T.D[j]?=D[j]?
set_option maxRecDepth 100000 in
set_option maxHeartbeats 4000000 in
theorem mtNew_some (hB : BW w0 w ρ P gens free D) (hfr : true ∈ free) (hcnt : free.count true + (D.map fun d => d.A.L.length).sum = free.length) :
    Calls Tryz.prog 12 #[.pointer (some ⟨P.1,0,none⟩)] w (NewS w0 w ρ P free D):=by
 have hN:=AMnode.gNew (some ⟨P.1,0,none⟩) [] w
 replace hN:=qh hN
 go_enter Tryz.func12,Tryz.ntmps12
 go_wp2_with fail
 refine hN.out.mono ?_
 clear hN
 rintro e w1 ⟨rfl,hb1,hs1,hAG⟩
 obtain ⟨a1,a2⟩:=hB.ars.new hB.ro hb1 hs1 (ta:=162) (tc:=192) hAG
 have hB1:BW w0 w1 _ P gens free (D++[⟨162,192,⟨w.heap.size+1,w.heap.size,[],0⟩⟩]):=⟨hB.ro.step a2 (by simp),a1⟩
 obtain ⟨hA2,hU2⟩:=am_start hB1 hcnt
 have hRU:=a2.trans hU2
 obtain ⟨T0,hT0⟩:∃ T0,T0=T00 (mark (mark (mark ρ (w.heap.size+1) (11+3*D.length)) w.heap.size (12+3*D.length)) w1.heap.size 4) P gens free D (w.heap.size+1) w.heap.size w1.heap.size:=⟨_,rfl⟩
 have q1:T0.ρ=mark (mark (mark ρ (w.heap.size+1) (11+3*D.length)) w.heap.size (12+3*D.length)) w1.heap.size 4:=by rw [hT0];rfl
 have q2:T0.P=P:=by rw [hT0];rfl
 have q3:T0.free=free:=by rw [hT0];rfl
 have q4:T0.D=D++[⟨162,192,⟨w.heap.size+1,w.heap.size,[],0⟩⟩]:=by rw [hT0];rfl
 have q5:T0.i=D.length:=by rw [hT0];rfl
 have q6:T0.t=w1.heap.size:=by rw [hT0];rfl
 have q7:T0.F=[]∧T0.n=0∧T0.ly=0:=by rw [hT0];exact ⟨rfl,rfl,rfl⟩
 rw [← hT0] at hA2
 rw [← q1] at hRU
 have hLy:=hA2.layer (by rw [q3];exact hfr) (by rw [q7.2.2];omega)
 rw [q6] at hLy
 obtain ⟨wt,hwt⟩:∃ W,W=w1.alloc (.cells (treeC P.1 (w.heap.size+1) (0,0) 0 0) 73):=⟨_,rfl⟩
 rw [← hwt] at hA2 hLy hRU
 obtain ⟨tb,htb⟩:∃ tb,tb=w1.heap.size:=⟨_,rfl⟩
 rw [← htb] at hLy q6
 replace hLy:=qh hLy
 replace q1:=qh q1
 replace q2:=qh q2
 replace q3:=qh q3
 replace q4:=qh q4
 replace q5:=qh q5
 replace q6:=qh q6
 replace q7:=qh q7
 replace hRU:=qh hRU
 replace hA2:=qh hA2
 replace hwt:=qh hwt
 replace hs1:=qh hs1
 replace hb1:=qh hb1
 replace hB:=qh hB
 replace hT0:=qh hT0
 replace htb:=qh htb
 clear a1 hB1 hU2 hAG a2 hcnt
 go_wp2_with fail
 rw [← show wt=w1.alloc (.cells #[.pointer (some ⟨P.1,0,none⟩),.pointer (some ⟨w.heap.size+1,0,none⟩),.int .i64 0,.int .u64 0,.int .i64 0,.int .i64 0,.bool false] 73) from hwt.out,← htb.out]
 refine hLy.out.mono ?_
 rintro e w2 ⟨g,_,rfl,T1,hA3,hE3,hF3,hn3,hl3,hr3,hc3⟩
 have hblk:w2.heap[tb]?=some (.cells (treeC T1.P.1 T1.d.A.a T1.r T1.n T1.ly) 73):=by
  have:=hA3.blk;rw [hE3.t,q6.out] at this;exact this
 have c2:w2.cell? ⟨tb,2,none⟩=some (.int .i64 T1.r.1):=by rw [cell_of_heap hblk];rfl
 have c3:w2.cell? ⟨tb,3,none⟩=some (.int .u64 T1.r.2):=by rw [cell_of_heap hblk];rfl
 have cf:=frozen_of_heap hblk
 have ctl:=heap_lt hblk
 have hu7:Upd [T1.t] w2 ((w2.setCell ⟨tb,2,none⟩ (.int .i64 g.1)).setCell ⟨tb,3,none⟩ (.int .u64 g.2)):=((Upd.refl [T1.t] w2).setCell (p:=⟨tb,2,none⟩) (by rw [hE3.t,q6.out];simp) _).setCell (p:=⟨tb,3,none⟩) (by rw [hE3.t,q6.out];simp) _
 have hb7:((w2.setCell ⟨tb,2,none⟩ (.int .i64 g.1)).setCell ⟨tb,3,none⟩ (.int .u64 g.2)).heap[T1.t]?=some (.cells (treeC T1.P.1 T1.d.A.a g T1.n T1.ly) 73):=by rw [hE3.t,q6.out,heap_set_same (heap_set_same hblk 2 _) 3 _];rfl
 obtain ⟨a6,ev6⟩:=hA3.own g T1.n T1.ly hu7 hb7
 have hbx:=(Below.refl ((w2.setCell ⟨tb,2,none⟩ (.int .i64 g.1)).setCell ⟨tb,3,none⟩ (.int .u64 g.2)).heap.size _).alloc (Nat.le_refl _) (.cells #[.int .i64 g.1,.int .u64 g.2] 71)
 have a7:=a6.below hbx
 have hEv:=(hE3.trans ev6).trans (TEv.below a6 hbx)
 have hend:Hid (NewS w0 w ρ P free D (.returned (.tuple #[.pointer (some ⟨tb,0,none⟩),.int .i64 0])) (((w2.setCell ⟨tb,2,none⟩ (.int .i64 g.1)).setCell ⟨tb,3,none⟩ (.int .u64 g.2)).alloc (.cells #[.int .i64 g.1,.int .u64 g.2] 71))):=qh (by
  refine ⟨{ T1 with r:=g,n:=T1.n,ly:=T1.ly },g,?_,MTw.one a7 ?_ rfl ?_ ?_,hEv.P.trans q2.out,hEv.i.trans q5.out,?_,?_,?_,?_,fun j hj=>?_⟩
  ·show Ending.returned (.tuple #[.pointer (some ⟨tb,0,none⟩),.int .i64 0])=Ending.returned (.tuple #[.pointer (some ⟨T1.t,0,none⟩),.int .i64 0])
   rw [hE3.t,q6.out]
  ·show T1.F=_
   rw [hF3,q7.out.1];rfl
  ·show T1.n=0
   rw [hn3,q7.out.2.1]
  ·show T1.ly=1
   rw [hl3,q7.out.2.2]
  ·show T1.free.count true+1=_
   rw [hc3,q3.out]
  ·show T1.free.length=_
   rw [hE3.fl,q3.out]
  ·have h1:=hEv.ru
   rw [q5.out] at h1;exact (hRU.out.mono (by simp)).trans h1
  ·show T1.D.length=_
   rw [hE3.dl,q4.out];simp
  ·show T1.D[j]?=D[j]?
   rw [hE3.dj j (by rw [q5.out];omega),q4.out,List.getElem?_append_left hj])
 clear hu7 hb7 a6 ev6 a7 hEv hA3 hE3 hF3 hn3 hl3 hr3 hc3 hblk hbx
 go_wp2_with fail
 refine bodyPost_ret (v:=.tuple #[.pointer (some ⟨tb,0,none⟩),.int .i64 0]) (by simp [results,Tryz.results12,go_sem]) rfl hend.out
end
open Go.RowKit
section
variable {w0 w w':World} {T:TS} {S:List Nat} {Y:List Ly} {C:Cont Str}
theorem below_of {ρ:Nat→Nat} (hK:Kp ρ ρ w w') (hU:RU [0] w w' ρ ρ):Below w.heap.size w w' :=
 ⟨hK.os,hK.tape,hK.output,hK.size,fun k hk=>by
  by_cases h0:ρ k=0
  ·exact (hK.box k hk h0).1
  ·exact hU.block k hk (by simpa using h0)⟩
theorem MTr.rdrB (h:MTr w0 w T Y C):Rdr w0 (VsS Y C) T.t T.d.A.a .nilFunc (fun _ W=>AM w0 W T∧RU [0] w W T.ρ T.ρ) (fun _=>T.ρ) 0 where
 ok:=⟨fun _ _=>h.sane,fun _ _=>⟨C,h.ct,fun _ hk=>hk⟩⟩
 ro:=fun _ _ hW=>hW.1.bw.ro
 wr:=fun _ _ _ _ hW hu hS=>⟨hW.1.own0 hu hS,hW.2.trans (RU.upd hW.1.bw.ro hu fun k hk _=>by simp [(hS k hk).2])⟩
 tree:=fun _ _ hW=>hW.1.cells.2.1
 root:=fun _ _ hW=>⟨T.r,hW.1.cells.2.2.1,hW.1.cells.2.2.2.1,fun _=>h.ro⟩
 look:=fun _ W g hW _=>by
  refine (mtLook_nil hW.1 g fun x hx=>Seen.one ⟨⟨T.ρ,hW.1.ok x hx⟩,h.kd x hx⟩).mono ?_;rintro e w' ⟨hb,hc⟩;refine ⟨(),To.refl _ _,.inl rfl,⟨hW.1.below hb,hW.2.trans ((RU.below (rs:=[]) hW.1.bw.ro hb).mono (by simp))⟩,Kp.below hb,.inr ⟨rfl,?_⟩⟩;rintro ⟨n,hn⟩;obtain ⟨x,hx,hxe⟩:=h.mem.1 hn;injection hxe with h1 h2;rcases hc with ⟨x2,hx2,h3,rfl⟩ | ⟨hno,-⟩
  ·exact ⟨x2.2,rfl,h.mem.2 ⟨x2,hx2,by rw [h3]⟩,⟨⟨T.ρ,(hW.1.below hb).ok x2 hx2⟩,h.kd x2 hx2⟩⟩
  ·exact absurd h1 (hno x hx)
theorem MTr.getB (h : MTr w0 w T Y C) (key : Str) (hk : key.size ≤ 100000000) : Calls Tryz.prog 15 #[.pointer (some ⟨T.t, 0, none⟩), .string key, .nilFunc] w fun e w' =>
    e=.returned (.tuple #[.string ((M.cget C key).getD s0),.bool (M.cget C key).isSome,.bool false])∧Below w.heap.size w w':=by
 refine (h.rdrB.get (s:=()) (N:=0) key hk ⟨h.am,(RU.refl (rs:=[0]) h.am.bw.ro)⟩ (.inl rfl) (.inl rfl)).mono ?_
 rintro e w' ⟨s',_,hS,hK,_,hc⟩
 rcases hc with ⟨hg,_⟩ | ⟨_,o,ho,rfl⟩
 ·cases hg
 ·rw [ho C h.ct]
  exact ⟨rfl,below_of hK hS.2⟩
theorem MTr.nextB (h : MTr w0 w T Y C) (key : Str) (hk : key.size ≤ 100000000) (after : Bool) : Calls Tryz.prog 18 #[.pointer (some ⟨T.t, 0, none⟩), .string key, .bool after, .nilFunc] w fun e w' =>
    e=.returned (.tuple #[.string (fK (M.cnext C key after)),.string (fX (M.cnext C key after)),.bool (M.cnext C key after).isSome,.bool false])∧Below w.heap.size w w':=by
 refine (h.rdrB.next rfl (s:=()) key hk after ⟨h.am,(RU.refl (rs:=[0]) h.am.bw.ro)⟩).mono ?_
 rintro e w' ⟨s',_,hS,hK,hc⟩
 rcases hc with ⟨hg,_⟩ | ⟨_,o,ho,rfl⟩
 ·cases hg
 ·rw [SrOK.eq h.ct ho]
  exact ⟨rfl,below_of hK hS.2⟩
end
def pcel (x:Str×Str):List Value:=[.string x.1,.string x.2]
theorem pcel_len (x:Str×Str):(pcel x).length=2:=rfl
theorem pcel_one (x:Str×Str):∀ y∈pcel x,y.oneCell'=true:=by intro y hy;simp [pcel] at hy;rcases hy with rfl | rfl <;> rfl
theorem pr_info:∃ i0:TypeInfo,Tryz.prog.info? 62=some i0∧i0.zero=some (.agg #[.string ⟨#[]⟩,.string ⟨#[]⟩])∧i0.size=2∧i0.bytes=32:=info_parts (show (Tryz.prog.info? 62).map (fun i=>(i.zero,i.size,i.bytes))=some (some (.agg #[.string ⟨#[]⟩,.string ⟨#[]⟩]),2,32) by kernel_rfl)
def AllEnd (w:World) (C:Cont Str) (x:Ending) (w':World):Prop:=∃ a c,x=.returned (.slice a C.length c)∧Row w.heap.size 62 2 pcel w' (.slice a C.length c) C∧Below w.heap.size w w'
theorem take_pair {C:Cont Str} {k:Nat} {p:Str×Str} (h:C[k]?=some p):C.take (k+1)=C.take k++[p]:=by
 obtain ⟨h1,h2⟩:=List.getElem?_eq_some_iff.1 h
 rw [List.take_succ_eq_append_getElem h1,h2]
def atKey (C:Cont Str) (k:Nat):Str:=match k with
 | 0=>s0
 | k+1=>match C[k]? with
  | some p=>p.1
  | none=>s0
theorem next_at {C:Cont Str} (h:CSort C) {k:Nat} (hk:k≤C.length):M.cnext C (atKey C k) (decide (k≠0))=C[k]?:=by
 cases k with
 | zero =>
  unfold M.cnext atKey
  cases C with
  | nil=>rfl
  | cons p C =>
   simp [sle_s0]
 | succ k =>
  obtain ⟨p,hp⟩:∃ p,C[k]?=some p:=⟨_,List.getElem?_eq_getElem (by omega)⟩;have e:atKey C (k+1)=p.1:=by unfold atKey;simp only [hp]
  rw [e];unfold M.cnext;simp only [show decide (k+1≠0)=true by simp,if_true];have e2:C=C.take (k+1)++C.drop (k+1):=(List.take_append_drop _ _).symm
  have h1:∀ q,q∈C.take (k+1)→slt p.1 q.1=false:=fun q hq=>by
   obtain ⟨j,hj⟩:=List.mem_iff_getElem?.1 hq;have hjl:=(List.getElem?_eq_some_iff.1 hj).1;rw [List.length_take] at hjl;rw [List.getElem?_take_of_lt (by omega)] at hj;rcases Nat.lt_or_ge j k with h9 | h9
   ·exact slt_asymm (csort_lt h h9 hj hp)
   ·have:j=k:=by omega
    subst this;rw [hp] at hj;injection hj with hj;rw [← hj,slt_irrefl]
  have h2:C.find? (fun q=>slt p.1 q.1)=(C.drop (k+1)).find? fun q=>slt p.1 q.1:=by
   conv=>lhs;rw [e2]
   rw [List.find?_append,find_none h1];rfl
  rw [h2]
  cases hd:C[k+1]? with
  | none =>
   rw [List.drop_eq_nil_of_le (List.getElem?_eq_none_iff.1 hd)];rfl
  | some q =>
   obtain ⟨h3,h4⟩:=List.getElem?_eq_some_iff.1 hd;rw [List.drop_eq_getElem_cons h3,List.find?_cons,h4,csort_lt h (by omega) hp hd]
section
variable {w0 w:World} {T:TS} {Y:List Ly} {C:Cont Str}
theorem MTr.on (h:MTr w0 w T Y C) {w':World} (hA:AM w0 w' T):MTr w0 w' T Y C:=⟨hA,h.sane,h.ct,h.ro,h.fl,h.kd,h.ly,h.n⟩
set_option maxRecDepth 100000 in
set_option maxHeartbeats 2000000 in
theorem MTr.all (h:MTr w0 w T Y C) (hcl:C.length≤100000) (hks:∀ p,p∈C→p.1.size≤100000000):Calls Tryz.prog 30 #[.pointer (some ⟨T.t,0,none⟩)] w (AllEnd w C):=by
 have c1:=h.am.cells.2.1
 have c6:=h.am.cells.2.2.2.2.2.2.1
 have htl:=block_lt_of_cell c1
 have hNo:=qh (none_ok c1)
 have hso:=h.ct.srt
 have hNx:Hid (∀ (W:World) (k:Nat),Below w.heap.size w W→k≤C.length→Calls Tryz.prog 18 #[.pointer (some ⟨T.t,0,none⟩),.string (atKey C k),.bool (decide (k≠0)),.nilFunc] W fun e w'=>e=.returned (.tuple #[.string (fK C[k]?),.string (fX C[k]?),.bool C[k]?.isSome,.bool false])∧Below W.heap.size W w'):=qh fun W k hW hk=>by
  have hsz:(atKey C k).size≤100000000:=by
   unfold atKey
   cases k with
   | zero=>exact Nat.zero_le _
   | succ k =>
    simp only
    cases hp:C[k]? with
    | none=>exact Nat.zero_le _
    | some p=>exact hks p (List.mem_of_getElem? hp)
  have:=(h.on (h.am.below hW)).nextB (atKey C k) hsz (decide (k≠0));rw [next_at hso hk] at this;exact this
 obtain ⟨i0,hi0,hzA,hzB,hzC⟩:=pr_info
 clear h hks hso
 have hr0:Hid (Row w.heap.size 62 2 pcel w (.slice none 0 0) []):=qh (Row.nil pcel_len pcel_one _ _ _)
 go_enter Tryz.func30,Tryz.ntmps30
 go_wp2_with fail
 refine hNo.out.mono ?_
 rintro e w1 ⟨rfl,rfl⟩
 go_wp2_with fail
 go_loopg [3,4,5] (C.length+1) (fun gk v3 v4 v5 wr=>∃ (k:Nat) (a:Option Addr) (c:Nat),gk=C.length+1 - k∧k≤C.length∧v3=.slice a k c∧v4=.string (atKey C k)∧v5=.bool (decide (k≠0))∧Below w.heap.size w wr∧Row w.heap.size 62 2 pcel wr (.slice a k c) (C.take k))
 case atStart=>exact ⟨0,none,0,rfl,Nat.zero_le _,rfl,rfl,rfl,Below.refl _ _,hr0.out⟩
 case round =>
  obtain ⟨k,a,c,rfl,hk,rfl,rfl,rfl,hB,hrow⟩:=hrel;obtain ⟨at',hat⟩:∃ x,x=atKey C k:=⟨_,rfl⟩;obtain ⟨af,haf⟩:∃ x,x=decide (k≠0):=⟨_,rfl⟩;have hN1:=hNx.out wr k hB hk;rw [← hat,← haf] at hN1 ⊢;replace hN1:=qh hN1;replace hB:=qh hB;replace hrow:=qh hrow;replace hat:=qh hat;replace haf:=qh haf
  cases hp:C[k]? with
  | none =>
   rw [hp] at hN1;have hkl:k=C.length:=by have:=List.getElem?_eq_none_iff.1 hp;omega
   replace hp:=qh hp;go_wp2_with fail;refine hN1.out.mono ?_;rintro e w2 ⟨rfl,hb⟩;replace hb:=qh hb;go_wp2_with fail;go_ret;have h1:=hrow.out.below hb.out;rw [hkl,List.take_length] at h1;refine ⟨a,c,?_,h1,hB.out.trans (hb.out.mono hB.out.size)⟩;rfl
  | some p =>
   rw [hp] at hN1;have hkl:=(List.getElem?_eq_some_iff.1 hp).1;obtain ⟨pk,pv⟩:=p;simp only [fK,fX] at hN1;have hat1:Hid (atKey C (k+1)=pk):=qh (by unfold atKey;simp only [hp]);have htk:=qh (take_pair hp);replace hp:=qh hp;have hlt:(C.take k).length=k:=by rw [List.length_take];omega
   replace hlt:=qh hlt;go_wp2_with fail;refine hN1.out.mono ?_;rintro e w2 ⟨rfl,hb⟩;have hB2:=qh (hB.out.trans (hb.mono hB.out.size));have hrow2:=qh (hrow.out.below hb);clear hb;have hA2:Below w2.heap.size w2 (w2.alloc (.cells #[.string pk,.string pv] 62)):=(Below.refl _ _).alloc (Nat.le_refl _) _;have hr5:=qh (hrow2.out.below hA2);have hs5:=SrcOf.one w2 62 [.string pk,.string pv] (by intro y hy;simp at hy;rcases hy with rfl | rfl <;> rfl);replace hs5:=qh hs5;have hbb:=qh (Nat.le_trans hB2.out.size hA2.size);have hbel:=qh (hB2.out.trans (hA2.mono hB2.out.size));have hlm:Hid ((C.take k).length+1≤maxLen):=qh (by rw [hlt.out];unfold maxLen;omega);have hly:Hid (((C.take k).length+1)*32≤140737488355328):=qh (by rw [hlt.out];omega);clear hA2
   go_wp2_with (at_builtin;refine wpList_append_row (f:=pcel) (M:=[(pk,pv)]) _ rfl _ _ 59 rfl w.heap.size 62 i0 (.agg #[.string ⟨#[]⟩,.string ⟨#[]⟩]) 2 32 Tryz.underlying59 hi0 hzA hzB hzC rfl (by decide) (.slice a k c) (C.take k) rfl hr5.out _ rfl hs5.out hlm.out hly.out hbb.out ?_;intro a' c' w7 hrow6 hu6 hat6;replace hrow6:=qh hrow6;replace hu6:=qh hu6;replace hat6:=qh hat6)
   go_roundg (C.length - k)
   case rel =>
    have hr7:=hrow6.out;rw [← htk.out] at hr7;rw [hlt.out] at hr7;refine ⟨k+1,a',c',by omega,by omega,rfl,by rw [hat1.out],by simp,hbel.out.trans (hu6.out.below hbb.out (fun y hy=>?_)),hr7⟩;exact (hr5.out.lt y (mem_own hy)).1
   case measure=>omega
end
open Go.RowKit
def DelE (w0 w:World) (T:TS) (Y:List Ly) (C:Cont Str) (k pt:Nat) (key:Str) (e:Ending) (w':World):Prop :=
 e=.returned (.tuple #[.string ((M.cget C key).getD s0),.bool (M.cget C key).isSome])∧∃ T' Y',MTw w0 w' T' Y' (cdel C key) k pt∧TEv w w' T T'∧(EvoY Y Y'∧Y'.map (·.pre)=Y.map (·.pre))
theorem cdel_none {β:Type} {C:Cont β} {k:Str} (h:cget C k=none):cdel C k=C:=by
 unfold cdel
 refine List.filter_eq_self.2 fun p hp=>?_
 unfold cget at h
 simp only [Option.map_eq_none_iff,List.find?_eq_none] at h
 have:=h p hp
 simpa using this
set_option maxRecDepth 100000 in
set_option maxHeartbeats 4000000 in
theorem MTw.delete {w0 w : World} {T : TS} {Y : List Ly} {C : Cont Str} {k pt : Nat} (h : MTw w0 w T Y C k pt) (hk : k ≤ 1000) (hpt : pt ≤ 100000) (key : Str) (hks : key.size ≤ 100000) (hCn : C.length ≤ 1000000000) :
    Calls Tryz.prog 23 #[.pointer (some ⟨T.t,0,none⟩),.string key] w (DelE w0 w T Y C k pt key):=by
 have hTr:=h.tr hk hpt
 have hFi:=qh (hTr.find key (by omega))
 have c1:=h.mf.am.cells.2.1
 have c6:=h.mf.am.cells.2.2.2.2.2.2.1
 have htl:=block_lt_of_cell c1
 have hNo:=qh (none_ok c1)
 obtain ⟨A,hAe⟩:∃ a,a=T.d.A.a:=⟨_,rfl⟩
 have hS0:=MS.start h.mf.am
 replace hS0:=qh hS0
 replace hAe:=qh hAe
 replace h:=qh h
 replace hTr:=qh hTr
 go_enter Tryz.func23,Tryz.ntmps23
 go_wp2_with fail
 refine hNo.out.mono ?_
 rintro z1 w1 ⟨rfl,rfl⟩
 go_wp2_with fail
 refine hFi.out.mono ?_
 clear hFi
 rintro z2 w2 ⟨i,l,pa,pc,up,mk,s,is,po,rfl,hon,hup,⟨hpo,hpge,hrow⟩,hA2,hE2,hist,hisf⟩
 have hpr:T.ρ pa=0:=h.out.mf.am.bw.ro.far _ hpge
 have hS2:=(hS0.out.call hA2 hE2).add hpo hpge hpr (fun x hx=>by cases hx)
 clear hpo
 obtain ⟨N,hN⟩:∃ N,N=l.Ls.length:=⟨_,rfl⟩
 rw [← hN] at hrow
 unfold slc
 have hik:i≤key.size:=hon.lt.elim (fun h9=>by omega) (fun h9=>by have:(bl key).length=key.size:=rfl;omega)
 have hN1:N≤14:=by rw [hN];exact h.out.hgt hk hpt hon.mem
 obtain ⟨R0,x1,nd,q,f,hR,hx,hnF,hq,hcs,hnb,hf,hpg,hget,hmemf⟩:=hTr.out.leafAt hon.mem (mT (mkAt key i))
 have hN0:0 < N:=by have:=(List.getElem?_eq_some_iff.1 hR).1;omega
 rw [← hN] at hpg
 have hmk:MkOK (mkAt key i):=mkOf_ok (keyAt key i)
 have hRe:=qh fun W=>mtRest_any key i (by omega) (by omega) W
 have hcov:=cov_of hf hmk (atK_mem hx).2
 have hfn:f.n≤6:=by have h9:=h.out.wy.wb.slim l hon.mem 0 R0 hR _ (atK_mem hx).1;simp only at h9;rw [hf.klen] at h9;exact h9
 have hMOK:=h.out.wy.ok
 have hso:is=true→s.m=mkAt key i∧SlOK s:=fun h9=>hMOK.slot hon.mem (mkOf_b _) (hist h9).1
 obtain ⟨rs,hrs⟩:∃ r,r=bs (keyAt key (i+1)):=⟨_,rfl⟩
 rw [← hrs] at hRe
 have hvl:f.bn.vals.length=f.bn.keys.length:=by rw [hf.klen];exact hf.len
 have hcg:=find_cget hMOK h.out.ct hon hrs hist hisf
 have hhas:=find_has hget hist hisf hvl
 have hAt:Hid (∀ W L,MS w0 w T W T L→W.heap[q]?=some (.cells (.int .u64 x1.2::.bool true::(lfc f++zic)).toArray 192)):=qh fun W L hS=>by have:=hS.am.at hnF hq;rw [hcs] at this;exact this
 have hG:Hid (∀ W L,MS w0 w T W T L→Calls Tryz.prog 62 #[.pointer (some ⟨A,0,none⟩),.agg #[.int .i64 x1.1,.int .u64 x1.2]] W fun y W'=>y=.returned (.tuple #[.pointer (some ⟨q,1,none⟩),.bool true])∧Below W.heap.size W W'):=qh fun W L hS=>by rw [hAe.out];exact hS.getQ hq
 have hcl:=lfc_len hf.S
 obtain ⟨cs,hcse⟩:∃ c,c=lfc f:=⟨_,rfl⟩
 obtain ⟨y,hy⟩:∃ c,c=zic:=⟨_,rfl⟩
 have hylen:y.length=8:=by rw [hy];rfl
 rw [← hcse,← hy] at hAt
 rw [← hcse] at hcl
 obtain ⟨m,hm⟩:∃ m,m=mkAt key i:=⟨_,rfl⟩
 have hplen:=pathOf_len l.Ls (mT (mkAt key i))
 rw [← hN] at hplen
 have hpk:Hid (∀ W:World,W.heap[pa]?=some po→W.cell? ⟨pa,(N - 1)*2,none⟩=some (.int .i64 x1.1)∧W.cell? ⟨pa,(N - 1)*2+1,none⟩=some (.int .u64 x1.2)∧pa < W.heap.size∧N≤pc):=qh fun W hW=>by
  obtain ⟨b',c',ev,_,_,_,h5,_,_,hat⟩:=(hrow W hW).at hpg;injection ev with ev _ ev2;injection ev with ev;injection ev with ev;subst ev ev2;exact ⟨hat 0 _ rfl,hat 1 _ rfl,heap_lt hW,by omega⟩
 have hNc:=(hpk.out w2 (hS2.nth 0 rfl)).2.2.2
 replace hrow:=qh hrow
 replace hpg:=qh hpg
 replace hR:=qh hR
 replace hx:=qh hx
 replace hnF:=qh hnF
 replace hq:=qh hq
 replace hcs:=qh hcs
 replace hnb:=qh hnb
 replace hf:=qh hf
 replace hget:=qh hget
 replace hmemf:=qh hmemf
 replace hmk:=qh hmk
 replace hcov:=qh hcov
 replace hfn:=qh hfn
 replace hMOK:=qh hMOK
 replace hso:=qh hso
 replace hrs:=qh hrs
 replace hcg:=qh hcg
 replace hhas:=qh hhas
 replace hcse:=qh hcse
 replace hy:=qh hy
 replace hcl:=qh hcl
 replace hylen:=qh hylen
 replace hm:=qh hm
 replace hN:=qh hN
 replace hon:=qh hon
 replace hup:=qh hup
 replace hist:=qh hist
 replace hisf:=qh hisf
 replace hpr:=qh hpr
 replace hpge:=qh hpge
 replace hvl:=qh hvl
 replace hplen:=qh hplen
 clear hA2 hE2
 go_upto_region 4 with fail
 rw [← hN.out]
 have hS3:=(hS2.box (.cells #[.int .i64 ((i:Nat):Int),.slice (some ⟨pa,0,none⟩) N pc,.int .i64 up.1,.int .u64 up.2,.int .u64 ((mk.s:Nat):Int),.int .u8 ((mk.c:Nat):Int)] 120)).box (.cells #[.int .u64 ((s.m.s:Nat):Int),.int .u8 ((s.m.c:Nat):Int),.string s.rest,.string s.val,.bool s.deep,.int .i64 s.link.1,.int .u64 s.link.2] 92)
 have q1:(w2.alloc (.cells #[.int .i64 ((i:Nat):Int),.slice (some ⟨pa,0,none⟩) N pc,.int .i64 up.1,.int .u64 up.2,.int .u64 ((mk.s:Nat):Int),.int .u8 ((mk.c:Nat):Int)] 120)).heap.size=w2.heap.size+1:=by simp
 rw [q1] at hS3
 clear q1
 generalize (w2.alloc (.cells #[.int .i64 ((i:Nat):Int),.slice (some ⟨pa,0,none⟩) N pc,.int .i64 up.1,.int .u64 up.2,.int .u64 ((mk.s:Nat):Int),.int .u8 ((mk.c:Nat):Int)] 120)).alloc (.cells #[.int .u64 ((s.m.s:Nat):Int),.int .u8 ((s.m.c:Nat):Int),.string s.rest,.string s.val,.bool s.deep,.int .i64 s.link.1,.int .u64 s.link.2] 92)=w3 at *
 obtain ⟨PB,hPB⟩:∃ b,b=w2.heap.size:=⟨_,rfl⟩
 obtain ⟨SB,hSB⟩:∃ b,b=w2.heap.size+1:=⟨_,rfl⟩
 rw [← hSB,← hPB] at hS3 ⊢
 replace hPB:=qh hPB
 replace hSB:=qh hSB
 replace hS3:=qh hS3
 cases is
 ·skip
  have hcn:M.cget C key=none:=by rw [hcg.out,if_neg (fun e=>by cases e.1)]
  replace hcn:=qh hcn;have hSd:=hS3.out.drew;refine wp_region_late [] (S:=fun W'=>W'.heap[PB]?=some (.cells #[.int .i64 ((i:Nat):Int),.slice (some ⟨pa,0,none⟩) N pc,.int .i64 up.1,.int .u64 up.2,.int .u64 ((mk.s:Nat):Int),.int .u8 ((mk.c:Nat):Int)] 120)∧W'.heap[SB]?=some (.cells #[.int .u64 ((s.m.s:Nat):Int),.int .u8 ((s.m.c:Nat):Int),.string s.rest,.string s.val,.bool s.deep,.int .i64 s.link.1,.int .u64 s.link.2] 92)) rfl (⟨hSd.nth 1 rfl,hSd.nth 0 rfl⟩) (fun hHeld=>?_)
  try dsimp only at hHeld
  refine tkW 0 ?_;refine tkW 1 ?_;refine tkW 2 ?_;refine nkW 3 ?_;refine nkW 4 ?_;refine nkW 5 ?_;refine nkW 6 ?_;refine nkW 7 ?_;refine rdM 8 ?_;intro K hK;rw [if_neg (by intro h;cases h)];have hS1:=hHeld;refine hK.out _ _ (fun _ _=>hS1) ?_;clear hHeld hK K;have hHeld:=hS1;clear hS1
  try simp only [Act.put,zs1,zs2,zs3]
  try simp only [Act.put]
  refine nkW 9 ?_;refine tkW 10 ?_;refine wpAnyM_done (by kernel_rfl) ?_ _
  try simp only [Exit.then]
  clear hHeld;replace hcn:=hcn.out;go_wp2_with fail;refine bodyPost_ret (v:=.tuple #[.string ⟨#[]⟩,.bool false]) (by simp [results,Tryz.results23,go_sem]) rfl ⟨by rw [hcn];rfl,T,Y,?_,hSd.ev,⟨EvoY.refl _,rfl⟩⟩;rw [cdel_none hcn];exact h.out.on hSd.am
 ·skip
  by_cases hrr:s.rest=rs
  ·skip
   have hrq:(s.rest.toList == rs.toList)=true:=by rw [hrr];simp
   have hrq2:(s.rest.toList != rs.toList)=false:=by rw [hrr];simp
   have hrr2:=qh hrr;clear hrr;have hSd:=hS3.out.drew;refine wp_region_late [] (S:=fun W'=>W'.heap[PB]?=some (.cells #[.int .i64 ((i:Nat):Int),.slice (some ⟨pa,0,none⟩) N pc,.int .i64 up.1,.int .u64 up.2,.int .u64 ((mk.s:Nat):Int),.int .u8 ((mk.c:Nat):Int)] 120)∧W'.heap[SB]?=some (.cells #[.int .u64 ((s.m.s:Nat):Int),.int .u8 ((s.m.c:Nat):Int),.string s.rest,.string s.val,.bool s.deep,.int .i64 s.link.1,.int .u64 s.link.2] 92)) rfl (⟨hSd.nth 1 rfl,hSd.nth 0 rfl⟩) (fun hHeld=>?_)
   try dsimp only at hHeld
   refine tkW 0 ?_;refine tkW 1 ?_;refine tkW 2 ?_;refine tkW 3 ?_;refine tkM 4 ?_ (hz:=by rintro w ⟨e1,e2⟩;obtain ⟨d0,d1,d2,d3,d4,d5,d6,d7⟩:=box6 e1;obtain ⟨b0,b1,b2,b3,b4,b5,b6,b7⟩:=box7 e2;exact zf);refine tkW 5 ?_;refine tkW 6 ?_;refine tkM 7 ?_ (hz:=by rintro w ⟨e1,e2⟩;obtain ⟨d0,d1,d2,d3,d4,d5,d6,d7⟩:=box6 e1;obtain ⟨b0,b1,b2,b3,b4,b5,b6,b7⟩:=box7 e2;exact zf);refine rdM 8 ?_;intro K hK;go_simp;go_at_call 55;refine (hRe.out _).mono ?_;rintro z6 w4 ⟨rfl,rfl⟩;have hS9y:=hHeld;have hS4:=qh hSd;go_wp2_with fail;refine hK.out _ _ (fun _ _=>hS9y) ?_;clear hHeld hK K;have hHeld:=hS9y;clear hS9y
   try simp only [Act.put,zs1,zs2,zs3]
   try simp only [Act.put]
   refine tkW 9 ?_;refine tkW 10 ?_;refine wpAnyM_done (by kernel_rfl) ?_ _
   try simp only [Exit.then]
   clear hHeld;go_upto_region 6 with fail;clear hrq hrq2;obtain ⟨p,hp⟩:∃ p,p=N - 1:=⟨_,rfl⟩;rw [← hp] at hpk;have hw1:IntKind.i64.wrap ((N:Int) - 1)=(p:Int):=by rw [show ((N:Int) - 1)=(p:Int) by omega];exact IntWalk.i64_in _ (by omega)
   have hp1:p < N:=by omega
   have hp2:(p:Int) < (N:Int):=by omega
   replace hp:=qh hp;have hSd6:=hS4.out.drew;refine wp_region_late [] (S:=fun W'=>W'.cell? ⟨T.t,1,none⟩=some (.pointer (some ⟨A,0,none⟩))∧W'.heap[PB]?=some (.cells #[.int .i64 ((i:Nat):Int),.slice (some ⟨pa,0,none⟩) N pc,.int .i64 up.1,.int .u64 up.2,.int .u64 ((mk.s:Nat):Int),.int .u8 ((mk.c:Nat):Int)] 120)∧W'.heap[pa]?=some po) rfl (⟨by rw [hAe.out];exact hSd6.tree,hSd6.nth 1 rfl,hSd6.nth 2 rfl⟩) (fun hHeld=>?_)
   try dsimp only at hHeld
   refine tkW 0 ?_;refine tkW 1 ?_;refine tkW 2 ?_;refine tkM 3 ?_ (hz:=by rintro w ⟨e1,e2,e3⟩;obtain ⟨d0,d1,d2,d3,d4,d5,d6,d7⟩:=box6 e2;obtain ⟨k0,k1,kl,_⟩:=hpk.out _ e3;exact zf);refine tkW 4 ?_;refine tkM 5 ?_ (hz:=by rintro w ⟨e1,e2,e3⟩;obtain ⟨d0,d1,d2,d3,d4,d5,d6,d7⟩:=box6 e2;obtain ⟨k0,k1,kl,_⟩:=hpk.out _ e3;exact zf);refine tkW 6 ?_;refine tkM 7 ?_ (hz:=by rintro w ⟨e1,e2,e3⟩;obtain ⟨d0,d1,d2,d3,d4,d5,d6,d7⟩:=box6 e2;obtain ⟨k0,k1,kl,_⟩:=hpk.out _ e3;exact zf);refine tkW 8 ?_;refine tkW 9 ?_;refine tkW 10 ?_;refine tkM 11 ?_ (hz:=by rintro w ⟨e1,e2,e3⟩;obtain ⟨d0,d1,d2,d3,d4,d5,d6,d7⟩:=box6 e2;obtain ⟨k0,k1,kl,_⟩:=hpk.out _ e3;exact zf);refine rdM 12 ?_;intro K hK;go_simp;go_at_call 62;refine (hG.out _ _ hSd6).mono ?_;rintro z3 w5 ⟨rfl,hb⟩;have hSe:=hSd6.below hb;clear hb;have hS9y:w5.cell? ⟨T.t,1,none⟩=some (.pointer (some ⟨A,0,none⟩))∧w5.heap[PB]?=some (.cells #[.int .i64 ((i:Nat):Int),.slice (some ⟨pa,0,none⟩) N pc,.int .i64 up.1,.int .u64 up.2,.int .u64 ((mk.s:Nat):Int),.int .u8 ((mk.c:Nat):Int)] 120)∧w5.heap[pa]?=some po:=⟨by rw [hAe.out];exact hSe.tree,hSe.nth 1 rfl,hSe.nth 2 rfl⟩;replace hSe:=qh hSe;go_wp2_with fail;refine hK.out _ _ (fun _ _=>hS9y) ?_;clear hHeld hK K;have hHeld:=hS9y;clear hS9y
   try simp only [Act.put,zs1,zs2,zs3]
   try simp only [Act.put]
   refine tkW 13 ?_;refine tkW 14 ?_;refine tkW 15 ?_;refine tkW 16 ?_;refine tkW 17 ?_;refine wpAnyM_done (by kernel_rfl) ?_ _
   try simp only [Exit.then]
   clear hHeld hSd6 hw1 hp1 hp2;have hgi:=hist.out (by first | rfl | trivial);obtain ⟨hsm,hsok⟩:=hso.out (by first | rfl | trivial);rw [← hm.out] at hsm
   have hDe:Hid (∀ W,Calls Tryz.prog 70 #[.agg cs.toArray,.agg #[.int .u64 ((s.m.s:Nat):Int),.int .u8 ((s.m.c:Nat):Int)]] W fun e w'=>∃ (cl co:List Value) (g:LF),e=.returned (.tuple #[.agg cl.toArray,.agg co.toArray,.bool true])∧cl=lfc g∧LFOK g∧g.bn=f.bn.del (mT m)∧Below W.heap.size W w'):=qh fun W=>by
    have hh:=hhas.out;rw [← hm.out] at hh;have hdl:=hf.out.del (m:=m) (by rw [hm.out];exact hmk.out) hh;have h9:=lfDelete_any f hf.out m (by rw [hm.out];exact hmk.out) hh W;unfold lfV slV mkV at h9;rw [hsm,hcse.out];refine h9.mono ?_;rintro e w' ⟨rfl,hb⟩;exact ⟨_,_,_,rfl,rfl,hdl.1,hdl.2,hb⟩
   replace hsm:=qh hsm;replace hsok:=qh hsok;replace hgi:=qh hgi;go_upto_region 7 with fail;have hSd7:=hSe.out.drew;refine wp_region_late [14] (S:=fun W'=>W'.heap[q]?=some (.cells (.int .u64 x1.2::.bool true::(cs++y)).toArray 192)∧W'.heap[SB]?=some (.cells #[.int .u64 ((s.m.s:Nat):Int),.int .u8 ((s.m.c:Nat):Int),.string s.rest,.string s.val,.bool s.deep,.int .i64 s.link.1,.int .u64 s.link.2] 92)) rfl (⟨hAt.out _ _ hSd7,hSd7.nth 0 rfl⟩) (fun hHeld=>?_)
   try dsimp only at hHeld
   refine tkW 0 ?_;refine tkW 1 ?_;refine tkW 2 ?_;refine tkW 3 ?_;refine ykM 4 ?_ (hy:=yieldsIf_load_mid (by rfl) 95 (.tmp 57) rfl q 2 (by rfl) cs _ (fun w hw=>range_mid hw.1 hcl.out) Tryz.underlying95 rfl (by rw [hcl.out];kernel_rfl));refine tkW 5 ?_;refine tkM 6 ?_ (hz:=by rintro w ⟨e1,e2⟩;obtain ⟨b0,b1,b2,b3,b4,b5,b6,b7⟩:=box7 e2;exact zf);refine rdM 7 ?_;intro K hK;go_simp;go_at_call 70;refine (hDe.out _).mono ?_;rintro z6 w6 ⟨cl,co,g,rfl,hcl2,hg,hgb,hb⟩;have hS6:=hSd7.below hb;clear hb;have hS9y:w6.heap[q]?=some (.cells (.int .u64 x1.2::.bool true::(cs++y)).toArray 192)∧w6.heap[SB]?=some (.cells #[.int .u64 ((s.m.s:Nat):Int),.int .u8 ((s.m.c:Nat):Int),.string s.rest,.string s.val,.bool s.deep,.int .i64 s.link.1,.int .u64 s.link.2] 92):=⟨hAt.out _ _ hS6,hS6.nth 0 rfl⟩;replace hS6:=qh hS6;replace hcl2:=qh hcl2;replace hg:=qh hg;replace hgb:=qh hgb;go_wp2_with fail;refine hK.out _ _ (fun _ _=>hS9y) ?_;clear hHeld hK K;have hHeld:=hS9y;clear hS9y
   try simp only [Act.put,zs1,zs2,zs3]
   try simp only [Act.put]
   refine tkW 8 ?_;refine tkW 9 ?_;refine tkW 10 ?_;refine tkW 11 ?_;refine tkW 12 ?_;refine tkW 13 ?_;refine rdM 14 ?_;intro K hK;rw [if_pos (by rfl)];have hc:=hAt.out _ _ hS6.out;have hlen:cl.length=111:=by rw [hcl2.out];exact lfc_len hg.out.S
   have th:=mn_there (o:=2) (n:=cl.toArray.size) hc (by simp [hcl.out,hylen.out,hlen]);refine wp_store_mid 95 (.tmp 66) (.tmp 62) rfl q 2 cl.toArray (by rfl) (by rfl) th (by rw [List.size_toArray,hlen];kernel_rfl) (by rw [hcl2.out];exact lfc_one g) ?_;have hst:=mn_set_leaf hc (vs:=cl) (by rw [hlen,hcl.out]);have hN8:NewND (w6.setCells q 2 cl) 0 (leafN g):=NewND.leaf hg.out;obtain ⟨T3,hS7,ev3,f3,n3,l3,r3,g3⟩:=hS6.out.store (x:=leafN g) hnF.out hq.out hN8 (fun b hb=>by cases hb) (hb_upd w6 q 2 cl) (by rw [show (leafN g).cs=.bool true::(lfc g++zic) from rfl,← hcl2.out,← hy.out];exact hst);clear hst th hc hN8;rw [show cl.toArray.toList=cl from rfl];generalize w6.setCells q 2 cl=w7 at *;replace hS7:=qh hS7;replace ev3:=qh ev3;replace f3:=qh f3;replace n3:=qh n3;replace l3:=qh l3;replace r3:=qh r3;replace g3:=qh g3;replace hlen:=qh hlen;refine hK.out _ _ (fun h=>by cases h) ?_;clear hK K
   try simp only [Act.put,zs1,zs2,zs3]
   try simp only [Act.put]
   refine wpAnyM_done (by kernel_rfl) ?_ _
   try simp only [Exit.then]
   clear hSd7;have hcc:=hcg.out;rw [if_pos ⟨by first | rfl | trivial,hrr2.out⟩] at hcc;have hC1:1≤C.length:=(cdel_len h.out.ct.srt key).2 (by rw [hcc];rfl);have hsk:keyAt key i=sb s:=by rw [part_rest hsok.out hgi.out.2 (by rw [hsm.out,hm.out]),hrr2.out,hrs.out,bl_bs]
   obtain ⟨Y4,d1,d2,d3,d4,d5,d6⟩:=h.out.delL hon.out hgi.out.1 hgi.out.2 hsk hR.out hx.out hS7.out.am f3.out (by rw [hgb.out,hm.out]) l3.out r3.out;have hwr:IntKind.i64.wrap ((C.length:Int) - 1)=(C.length:Int) - 1:=IntWalk.i64_in _ (by omega);have hblk:w7.heap[T.t]?=some (.cells (treeC T3.P.1 T3.d.A.a T3.r C.length T3.ly) 73):=by have:=hS7.out.am.blk;rw [hS7.out.ev.t,n3.out,h.out.n] at this;exact this
   have c4:w7.cell? ⟨T.t,4,none⟩=some (.int .i64 (C.length:Int)):=by rw [cell_of_heap hblk];rfl
   have cf:=frozen_of_heap hblk;have ctl:=heap_lt hblk;have hu9:Upd [T3.t] w7 (w7.setCell ⟨T.t,4,none⟩ (.int .i64 ((C.length:Int) - 1))):=(Upd.refl [T3.t] w7).setCell (p:=⟨T.t,4,none⟩) (by rw [hS7.out.ev.t];simp) _;have hb9:(w7.setCell ⟨T.t,4,none⟩ (.int .i64 ((C.length:Int) - 1))).heap[T3.t]?=some (.cells (treeC T3.P.1 T3.d.A.a T3.r (C.length - 1) T3.ly) 73):=by rw [hS7.out.ev.t,heap_set_same hblk 4 _,show ((C.length:Int) - 1)=((C.length - 1:Nat):Int) by omega];rfl
   obtain ⟨a9,ev9⟩:=hS7.out.am.own T3.r (C.length - 1) T3.ly hu9 hb9;have hsb:SB≠T.t:=fun e=>by have h1:=hS7.out.nth 0 rfl;rw [e,hblk] at h1;injection h1 with h1;injection h1 with _ h2;revert h2;decide
   obtain ⟨b0,b1,b2,b3,b4,b5,b6,b7⟩:=box7 (hu9.heap (hS7.out.nth 0 rfl) (by rw [hS7.out.ev.t];simpa using hsb));obtain ⟨a0,a1,a2,a3,a4,a5,a6,a7⟩:=box7 (hS7.out.nth 0 rfl);have hfinal:Hid (DelE w0 w T Y C k pt key (.returned (.tuple #[.string s.val,.bool true])) (w7.setCell ⟨T.t,4,none⟩ (.int .i64 ((C.length:Int) - 1)))):=qh ⟨by rw [hcc];rfl,_,Y4,⟨d1.same a9 rfl,d2,d3,d4,d5,?_⟩,hS7.out.ev.trans ev9,d6⟩
   rotate_left 1
   ·show C.length - 1=_
    rw [(cdel_len h.out.ct.srt key).1,hcc];rfl
   clear hu9 hb9 a9 ev9 d1 d2 d3 d4 d5 d6;replace hcc:=qh hcc;replace hblk:=qh hblk;go_wp2_with fail;refine bodyPost_ret (v:=.tuple #[.string s.val,.bool true]) (by simp [results,Tryz.results23,go_sem]) rfl hfinal.out
  ·skip
   have hrq:(s.rest.toList == rs.toList)=false:=by have:¬ s.rest.toList=rs.toList:=fun e=>hrr (toList_inj e);simpa using this
   have hrq2:(s.rest.toList != rs.toList)=true:=by have:¬ s.rest.toList=rs.toList:=fun e=>hrr (toList_inj e);simpa using this
   have hcn:M.cget C key=none:=by rw [hcg.out,if_neg (fun e=>hrr e.2)]
   replace hcn:=qh hcn;replace hrr:=qh hrr;have hSd:=hS3.out.drew;refine wp_region_late [] (S:=fun W'=>W'.heap[PB]?=some (.cells #[.int .i64 ((i:Nat):Int),.slice (some ⟨pa,0,none⟩) N pc,.int .i64 up.1,.int .u64 up.2,.int .u64 ((mk.s:Nat):Int),.int .u8 ((mk.c:Nat):Int)] 120)∧W'.heap[SB]?=some (.cells #[.int .u64 ((s.m.s:Nat):Int),.int .u8 ((s.m.c:Nat):Int),.string s.rest,.string s.val,.bool s.deep,.int .i64 s.link.1,.int .u64 s.link.2] 92)) rfl (⟨hSd.nth 1 rfl,hSd.nth 0 rfl⟩) (fun hHeld=>?_)
   try dsimp only at hHeld
   refine tkW 0 ?_;refine tkW 1 ?_;refine tkW 2 ?_;refine tkW 3 ?_;refine tkM 4 ?_ (hz:=by rintro w ⟨e1,e2⟩;obtain ⟨d0,d1,d2,d3,d4,d5,d6,d7⟩:=box6 e1;obtain ⟨b0,b1,b2,b3,b4,b5,b6,b7⟩:=box7 e2;exact zf);refine tkW 5 ?_;refine tkW 6 ?_;refine tkM 7 ?_ (hz:=by rintro w ⟨e1,e2⟩;obtain ⟨d0,d1,d2,d3,d4,d5,d6,d7⟩:=box6 e1;obtain ⟨b0,b1,b2,b3,b4,b5,b6,b7⟩:=box7 e2;exact zf);refine rdM 8 ?_;intro K hK;go_simp;go_at_call 55;refine (hRe.out _).mono ?_;rintro z6 w4 ⟨rfl,rfl⟩;have hS9y:=hHeld;have hS4:=qh hSd;go_wp2_with fail;refine hK.out _ _ (fun _ _=>hS9y) ?_;clear hHeld hK K;have hHeld:=hS9y;clear hS9y
   try simp only [Act.put,zs1,zs2,zs3]
   try simp only [Act.put]
   refine tkW 9 ?_;refine tkW 10 ?_;refine wpAnyM_done (by kernel_rfl) ?_ _
   try simp only [Exit.then]
   clear hHeld;replace hcn:=hcn.out;go_wp2_with fail;refine bodyPost_ret (v:=.tuple #[.string ⟨#[]⟩,.bool false]) (by simp [results,Tryz.results23,go_sem]) rfl ⟨by rw [hcn];rfl,T,Y,?_,hS4.out.ev,⟨EvoY.refl _,rfl⟩⟩;rw [cdel_none hcn];exact h.out.on hS4.out.am
open Go.RowKit
theorem mk0_ok:MkOK ⟨0,0⟩:=⟨by decide,by decide,fun _=>by decide⟩
theorem hi_ok {f:LF} (h:LFOK f):MkOK f.hi:=by
 have hh:=h.hi
 cases hb:f.bnd
 ·rw [hb] at hh
  simp only [Bool.false_eq_true,if_false] at hh;rw [hh];exact mk0_ok
 ·rw [hb,if_pos rfl] at hh
  exact hh
section
variable {w W:World} {x:ND} {q:Nat} {g:Value} {t:TypeId}
theorem LfAt.ends {f:LF} {o:Nat} (h:LfAt w q o f) (hS:f.S.length=15):w.rangeAt q (o+1+106) [.int .u64 ((f.hi.s:Nat):Int),.int .u8 ((f.hi.c:Nat):Int),.bool f.bnd,.int .i64 f.nx.1,.int .u64 f.nx.2]:=by
 refine rng_end (A:=.int .u64 ((pw f.n f.o:Nat):Int)::f.S.flatMap slc) ?_ (by rw [List.length_cons,slcs_len,hS])
 have:=h.leaf
 unfold lfc at this
 simpa using this
set_option maxRecDepth 100000 in
set_option maxHeartbeats 1000000 in
theorem nd_high_leaf {f:LF} (h:LfAt w q 1 f) (hf:LFOK f):Calls Tryz.prog 140 #[.pointer (some ⟨q,1,none⟩)] w fun e w'=>e=.returned (.tuple #[.string (mT f.hi),.bool f.bnd])∧Below w.heap.size w w':=by
 have hr:=h.ends hf.S
 have e0:=hr 0 _ rfl
 have e1:=hr 1 _ rfl
 have e2:=hr 2 _ rfl
 have hTx:=qh fun W=>mkText_any f.hi (hi_ok hf) W
 unfold mkV at hTx
 have c0:=h.low
 have hql:=h.lt
 obtain ⟨tx,htx⟩:∃ x,x=mT f.hi:=⟨_,rfl⟩
 rw [← htx] at hTx ⊢
 obtain ⟨m,hm⟩:∃ x,x=f.hi:=⟨_,rfl⟩
 rw [← hm] at hTx e0 e1
 obtain ⟨bd,hbd⟩:∃ x,x=f.bnd:=⟨_,rfl⟩
 rw [← hbd] at e2 ⊢
 simp only [show 1+1+106+0=108 from rfl,show 1+1+106+1=109 from rfl,show 1+1+106+2=110 from rfl] at e0 e1 e2
 replace htx:=qh htx
 replace hm:=qh hm
 replace hbd:=qh hbd
 clear h hf hr
 go_enter Tryz.func140,Tryz.ntmps140
 go_upto_region 2 with fail
 refine wp_region_late [] (S:=fun W'=>W'.cell? ⟨q,108,none⟩=some (.int .u64 ((m.s:Nat):Int))∧W'.cell? ⟨q,109,none⟩=some (.int .u8 ((m.c:Nat):Int))∧W'.cell? ⟨q,110,none⟩=some (.bool bd)) rfl (⟨e0,e1,e2⟩) (fun hHeld=>?_)
 try dsimp only at hHeld
 refine tkW 0 ?_
 refine tkW 1 ?_
 refine tkW 2 ?_
 refine tkW 3 ?_
 refine tkM 4 ?_ (hz:=by rintro w ⟨f0,f1,f2⟩;exact zf)
 refine tkW 6 ?_
 refine tkW 7 ?_
 refine tkW 8 ?_
 refine tkW 9 ?_
 refine tkM 10 ?_ (hz:=by rintro w ⟨f0,f1,f2⟩;exact zf)
 refine rdM 5 ?_
 intro K hK
 go_simp
 go_at_call 97
 refine (hTx.out _).mono ?_
 rintro z w2 ⟨rfl,hb⟩
 have hb2:Below w.heap.size w w2:=(Below.refl w.heap.size w).drew.trans hb
 have hS1:w2.cell? ⟨q,108,none⟩=some (.int .u64 ((m.s:Nat):Int))∧w2.cell? ⟨q,109,none⟩=some (.int .u8 ((m.c:Nat):Int))∧w2.cell? ⟨q,110,none⟩=some (.bool bd):=⟨keep hb2 e0,keep hb2 e1,keep hb2 e2⟩
 clear hb
 replace hb2:=qh hb2
 go_wp2_with fail
 refine hK.out _ _ (fun _ _=>hS1) ?_
 clear hHeld hK K
 have hHeld:=hS1
 clear hS1
 try simp only [Act.put,zs1,zs2,zs3]
 try simp only [Act.put]
 refine tkW 11 ?_
 refine tkW 12 ?_
 refine wpAnyM_done (by kernel_rfl) ?_ _
 try simp only [Exit.then]
 clear hHeld
 go_wp2_with fail
 go_ret2
 exact ⟨rfl,hb2.out⟩
set_option maxRecDepth 100000 in
set_option maxHeartbeats 1000000 in
theorem nd_high_inn {ic:List Value} {B:List Nat} {b:BN Sl} (h:InAt w q 1 ic) (hI:InC w B ic (down b)):Calls Tryz.prog 140 #[.pointer (some ⟨q,1,none⟩)] w fun e w'=>e=.returned (.tuple #[.string b.high,.bool b.bnd])∧Below w.heap.size w w':=by
 obtain ⟨ka,kc,va,vc,ha,hc,rfl,_,_⟩:=hI.cells
 have e4:=h.inn 4 _ rfl
 have e5:=h.inn 5 _ rfl
 simp only [show 1+112+4=117 from rfl,show 1+112+5=118 from rfl] at e4 e5
 have c0:=h.low
 have hql:=h.lt
 obtain ⟨hg,hhg⟩:∃ x,x=(down b).high:=⟨_,rfl⟩
 obtain ⟨bd,hbd⟩:∃ x,x=(down b).bnd:=⟨_,rfl⟩
 rw [← hhg] at e4
 rw [← hbd] at e5
 rw [show b.high=hg from hhg.symm,show b.bnd=bd from hbd.symm]
 replace hhg:=qh hhg
 replace hbd:=qh hbd
 clear h hI
 go_enter Tryz.func140,Tryz.ntmps140
 go_upto_region 3 with fail
 refine wp_region_late [] (S:=fun W'=>W'.cell? ⟨q,117,none⟩=some (.string hg)∧W'.cell? ⟨q,118,none⟩=some (.bool bd)) rfl (⟨e4,e5⟩) (fun hHeld=>?_)
 try dsimp only at hHeld
 refine tkW 0 ?_
 refine tkW 1 ?_
 refine tkW 2 ?_
 refine tkW 3 ?_
 refine tkM 4 ?_ (hz:=by rintro w ⟨f0,f1⟩;exact zf)
 refine tkW 5 ?_
 refine tkW 6 ?_
 refine tkW 7 ?_
 refine tkW 8 ?_
 refine tkM 9 ?_ (hz:=by rintro w ⟨f0,f1⟩;exact zf)
 refine tkW 10 ?_
 refine tkW 11 ?_
 refine wpAnyM_done (by kernel_rfl) ?_ _
 try simp only [Exit.then]
 clear hHeld
 go_wp2_with fail
 go_ret2
 exact ⟨rfl,(Below.refl w.heap.size w).drew⟩
theorem Seen.high (hs : Seen w x) (hc : w.heap[q]? = some (.cells (g :: x.cs).toArray t)) (hW : Below w.heap.size w W) : Calls Tryz.prog 140 #[.pointer (some ⟨q, 1, none⟩)] W fun e w' =>
    ∃ hv:Str,e=.returned (.tuple #[.string hv,.bool x.bn.bnd])∧(x.bn.bnd=true→hv=x.bn.high)∧Below W.heap.size W w':=by
 have h1:=rng1 (Below.heap' hW hc)
 rcases (hs.below hW).cases with ⟨f,s1,s2,s3,s4⟩ | ⟨s1,s2,s3,ic,B,s4,s5⟩
 ·rw [s4] at h1
  refine (nd_high_leaf (LfAt.of h1) s3).mono ?_;rintro e w' ⟨rfl,hb⟩;refine ⟨_,by rw [s1];rfl,fun h9=>?_,hb⟩;rw [s1] at h9 ⊢
  show _=if f.bnd then mT f.hi else s0
  rw [if_pos (show f.bnd=true from h9)]
 ·rw [s4] at h1
  refine (nd_high_inn (InAt.of h1) s5).mono ?_;rintro e w' ⟨rfl,hb⟩;exact ⟨_,rfl,fun _=>rfl,hb⟩
set_option maxRecDepth 100000 in
set_option maxHeartbeats 1000000 in
theorem nd_right_leaf {f:LF} (h:LfAt w q 1 f) (hf:LFOK f) (h6:f.n≤6):Calls Tryz.prog 139 #[.pointer (some ⟨q,1,none⟩)] w fun e w'=>e=.returned (.bool true)∧Below w.heap.size w w':=by
 have hl:=lfc_len hf.S
 have hC:=qh fun W=>lfRight_any f hf W
 have hF:=qh fun W=>lfFull_any f hf W
 rw [show decide (6 < f.n)=false by simp;omega] at hF
 have hr:=h.leaf
 have hql:=h.lt
 have c0:=h.low
 unfold lfV at hC hF
 obtain ⟨cs,hcs⟩:∃ cs,cs=lfc f:=⟨_,rfl⟩
 rw [← hcs] at hl hC hF hr
 replace hcs:=qh hcs
 replace hl:=qh hl
 replace hr:=qh hr
 clear h hf
 go_enter Tryz.func139,Tryz.ntmps139
 go_wp2_with (refine wpList_load_mid rfl 95 (.tmp 9) rfl q 2 (by rfl) cs _ hr.out Tryz.underlying95 rfl (by rw [hl.out];kernel_rfl) ?_)
 refine (hC.out _).mono ?_
 rintro e w1 ⟨rfl,hb⟩
 have hr1:=qh (rng_below hr.out hb)
 replace hb:=qh hb
 go_wp2_with (refine wpList_load_midg (by rfl) 95 (.tmp 15) rfl q 2 (by rfl) cs _ hr1.out Tryz.underlying95 rfl (by rw [hl.out];kernel_rfl) ?_)
 refine (hF.out _).mono ?_
 rintro e w2 ⟨rfl,hb2⟩
 replace hb2:=qh hb2
 go_wp2_with fail
 go_ret
 exact ⟨rfl,hb.out.trans (hb2.out.mono hb.out.size)⟩
set_option maxRecDepth 100000 in
set_option maxHeartbeats 1000000 in
theorem nd_right_inn {ic:List Value} {B:List Nat} {b:BN Sl} {lo:Str} (h:InAt w q 1 ic) (hI:InC w B ic (down b)) (ho:NodeOK lo b) (hlf:b.leaf=false) (h4:b.keys.length≤4):Calls Tryz.prog 139 #[.pointer (some ⟨q,1,none⟩)] w fun e w'=>e=.returned (.bool true)∧Below w.heap.size w w':=by
 have hC:=qh fun W (hW:Below w.heap.size w W)=>(hI.below hW).right (down_ok ho hlf) (show b.keys.length≤1000 by omega)
 have hF:=qh fun W (hW:Below w.heap.size w W)=>(hI.below hW).full
 rw [show decide (4 < (down b).keys.length)=false by simp;exact h4] at hF
 have hl:=hI.len
 have e0:w.cell? ⟨q,113,none⟩=some (.bool false):=by
  obtain ⟨ka,kc,va,vc,ha,hc,rfl,_,_⟩:=hI.cells;exact h.inn 0 _ rfl
 have hr:=h.inn
 have hql:=h.lt
 have c0:=h.low
 replace hl:=qh hl
 replace hr:=qh hr
 clear h hI ho
 go_enter Tryz.func139,Tryz.ntmps139
 go_wp2_with (refine wpList_load_mid rfl 98 (.tmp 22) rfl q 113 (by rfl) ic _ hr.out Tryz.underlying98 rfl (by rw [hl.out];kernel_rfl) ?_)
 refine (hC.out _ (Below.refl _ _)).mono ?_
 rintro e w1 ⟨rfl,hb⟩
 have hr1:=qh (rng_below hr.out hb)
 have e1:=keep hb e0
 have hq1:q < w1.heap.size:=Nat.lt_of_lt_of_le hql hb.size
 replace hb:=qh hb
 go_wp2_with (refine wpList_load_midg (by rfl) 98 (.tmp 36) rfl q 113 (by rfl) ic _ hr1.out Tryz.underlying98 rfl (by rw [hl.out];kernel_rfl) ?_)
 refine (hF.out _ hb.out).mono ?_
 rintro e w2 ⟨rfl,hb2⟩
 replace hb2:=qh hb2
 go_wp2_with fail
 go_ret
 exact ⟨rfl,hb.out.trans (hb2.out.mono hb.out.size)⟩
theorem Seen.right (hs:Seen w x) (hc:w.heap[q]?=some (.cells (g::x.cs).toArray t)) (hk:x.bn.keys.length≤cap (if x.bn.leaf then 0 else 1)) (hW:Below w.heap.size w W):Calls Tryz.prog 139 #[.pointer (some ⟨q,1,none⟩)] W fun e w'=>e=.returned (.bool true)∧Below W.heap.size W w':=by
 have h1:=rng1 (Below.heap' hW hc)
 rcases (hs.below hW).cases with ⟨f,s1,s2,s3,s4⟩ | ⟨s1,⟨lo,s2⟩,s3,ic,B,s4,s5⟩
 ·rw [s4] at h1
  rw [s2,s1,s3.klen] at hk;exact nd_right_leaf (LfAt.of h1) s3 hk
 ·rw [s4] at h1
  rw [s1] at hk;exact nd_right_inn (InAt.of h1) s5 s2 s1 hk
set_option maxRecDepth 100000 in
set_option maxHeartbeats 1000000 in
theorem nd_least_leaf {f:LF} (h:LfAt w q 1 f) (hf:LFOK f):Calls Tryz.prog 141 #[.pointer (some ⟨q,1,none⟩)] w fun e w'=>e=.returned (.tuple #[.string (mT (f.slot 0).m),.bool (decide (0 < f.n))])∧Below w.heap.size w w':=by
 have hl:=lfc_len hf.S
 have hA:=qh fun W=>lfAt_any f hf 0 (Nat.zero_le _) W
 have hmk:MkOK (f.slot 0).m:=by
  rcases Nat.eq_zero_or_pos f.n with h0 | h0
  ·rw [hf.free 0 (by omega) (by omega)];exact mk0_ok
  ·exact (hf.sok h0).m
 have hTx:=qh fun W=>mkText_any (f.slot 0).m hmk W
 have hr:=h.leaf
 have hql:=h.lt
 have c0:=h.low
 unfold lfV slV at hA
 unfold mkV at hTx
 obtain ⟨cs,hcs⟩:∃ cs,cs=lfc f:=⟨_,rfl⟩
 rw [← hcs] at hl hA hr
 obtain ⟨s,hs⟩:∃ s,s=f.slot 0:=⟨_,rfl⟩
 rw [← hs] at hA hTx ⊢
 obtain ⟨bd,hbd⟩:∃ b,b=decide (0 < f.n):=⟨_,rfl⟩
 rw [← hbd] at hA ⊢
 obtain ⟨tx,htx⟩:∃ x,x=mT s.m:=⟨_,rfl⟩
 rw [← htx] at hTx ⊢
 replace hcs:=qh hcs
 replace hl:=qh hl
 replace hr:=qh hr
 replace hs:=qh hs
 replace hbd:=qh hbd
 replace htx:=qh htx
 clear h hf hmk
 go_enter Tryz.func141,Tryz.ntmps141
 go_wp2_with (refine wpList_load_mid rfl 95 (.tmp 28) rfl q 2 (by rfl) cs _ hr.out Tryz.underlying95 rfl (by rw [hl.out];kernel_rfl) ?_)
 refine (hA.out _).mono ?_
 rintro e w1 ⟨rfl,hb⟩
 have hB2:=qh (hb.alloc hb.size (.cells #[.int .u64 ((s.m.s:Nat):Int),.int .u8 ((s.m.c:Nat):Int),.string s.rest,.string s.val,.bool s.deep,.int .i64 s.link.1,.int .u64 s.link.2] 92))
 replace hb:=qh hb
 go_wp2_with fail
 refine (hTx.out _).mono ?_
 rintro e w2 ⟨rfl,hb2⟩
 replace hb2:=qh hb2
 go_wp2_with fail
 go_ret2
 exact ⟨rfl,hB2.out.trans (hb2.out.mono hB2.out.size)⟩
set_option maxRecDepth 100000 in
set_option maxHeartbeats 1000000 in
theorem nd_least_inn {ic:List Value} {B:List Nat} {b:BN Sl} (h:InAt w q 1 ic) (hI:InC w B ic (down b)):Calls Tryz.prog 141 #[.pointer (some ⟨q,1,none⟩)] w fun e w'=>e=.returned (.tuple #[.string (b.keys.getD 0 s0),.bool (decide (0 < b.keys.length))])∧w=w':=by
 obtain ⟨ka,kc,va,vc,ha,hc,rfl,hk,_⟩:=hI.cells
 have e1:=h.inn 1 _ rfl
 simp only [show 1+112+1=114 from rfl] at e1
 have c0:=h.low
 have hql:=h.lt
 rw [show (down b).keys=b.keys from rfl] at e1 hk
 obtain ⟨K,hK⟩:∃ K,K=b.keys:=⟨_,rfl⟩
 rw [← hK] at e1 hk ⊢
 replace hK:=qh hK
 clear h hI
 cases K with
 | nil =>
  go_enter Tryz.func141,Tryz.ntmps141
  go_wp2_with fail;go_ret2;exact ⟨rfl,rfl⟩
 | cons k K =>
  obtain ⟨b0,o0,rfl,hb0,hl1,hl2,hat⟩:=hk.str (by simp);have k0:=hat 0 k rfl;rw [Nat.add_zero] at k0;obtain ⟨n,hn⟩:∃ n,n=(k::K).length:=⟨_,rfl⟩;rw [← hn] at e1 ⊢;have hn0:0 < n:=by rw [hn];simp
  replace hn:=qh hn;have hz:((n:Int) == 0)=false:=by simp;omega
  have hz2:(0:Int) < (n:Int):=by omega
  have hz3:decide (0 < n)=true:=by simpa using hn0
  rw [hz3];clear hk hat hl1 hl2
  go_enter Tryz.func141,Tryz.ntmps141
  go_wp2_with fail;go_ret2;exact ⟨rfl,rfl⟩
theorem Seen.least (hs : Seen w x) (hc : w.heap[q]? = some (.cells (g :: x.cs).toArray t)) (hW : Below w.heap.size w W) : Calls Tryz.prog 141 #[.pointer (some ⟨q, 1, none⟩)] W fun e w' =>
    ∃ lv:Str,e=.returned (.tuple #[.string lv,.bool (decide (0 < x.bn.keys.length))])∧(0 < x.bn.keys.length→x.bn.keys[0]?=some lv)∧Below W.heap.size W w':=by
 have h1:=rng1 (Below.heap' hW hc)
 rcases (hs.below hW).cases with ⟨f,s1,s2,s3,s4⟩ | ⟨s1,s2,s3,ic,B,s4,s5⟩
 ·rw [s4] at h1
  rw [s1,s3.klen];refine (nd_least_leaf (LfAt.of h1) s3).mono ?_;rintro e w' ⟨rfl,hb⟩;exact ⟨_,rfl,fun h0=>s3.kget h0,hb⟩
 ·rw [s4] at h1
  refine (nd_least_inn (InAt.of h1) s5).mono ?_;rintro e w' ⟨rfl,rfl⟩;exact ⟨_,rfl,fun h0=>by rw [List.getD_eq_getElem?_getD,List.getElem?_eq_getElem h0];rfl,Below.refl _ _⟩
end
end Go.Proofs.YtbdealmkmpnpoaaGreat.M
