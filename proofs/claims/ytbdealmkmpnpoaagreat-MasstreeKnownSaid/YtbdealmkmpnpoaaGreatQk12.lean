import Derived.Lib.SliceRun
import Derived.Deep.RegionLaw
import Derived.Laws.MakeOwn
import Derived.Shelf.SlSortCmp.NoneTotal
import Derived.Shelf.SlGeneric
import Derived.Shelf.SlicesG.Cmp
import Derived.Ground.SlsfProg
import Derived.Ground.SlgcProg
import Derived.Test.YtbdealmkmpnpoaaGreatProg
import Derived.Test.YtbdealmkmpnpoaaGreatChecked
import Derived.Deep.LoopGhost
import Derived.Deep.DeepCutAuto
import Derived.Test.YtbdealmkmpnpoaaGreatQk01
import Derived.Test.YtbdealmkmpnpoaaGreatQk02
import Derived.Test.YtbdealmkmpnpoaaGreatQk03
import Derived.Test.YtbdealmkmpnpoaaGreatQk04
import Derived.Test.YtbdealmkmpnpoaaGreatQk05
import Derived.Test.YtbdealmkmpnpoaaGreatQk06
import Derived.Test.YtbdealmkmpnpoaaGreatQk07
import Derived.Test.YtbdealmkmpnpoaaGreatQk08
import Derived.Test.YtbdealmkmpnpoaaGreatQk09
import Derived.Test.YtbdealmkmpnpoaaGreatQk10
import Derived.Test.YtbdealmkmpnpoaaGreatQk11
set_option linter.all false
namespace Go.Proofs.YtbdealmkmpnpoaaGreat.M
open Go.RowKit
structure MTw (w0 w:World) (T:TS) (Y:List Ly) (C:Cont Str) (k pt:Nat):Prop where
 mf:MF w0 w T (flat Y)
 wy:WY Y (Y.length+k) pt
 ct:MCt Y C
 ro:∃ l F',Y=l::F'∧l.r=T.r
 ly:T.ly=Y.length
 n:T.n=C.length
section
variable {β:Type}
theorem flat_one {Ls:List (Lev β)} {j:Nat} {A B:Lev β} {x:Hd} {n:BN β} (h:Ls[j]?=some (A++(x,n)::B)):∃ R,Ls.flatten.Perm ((x,n)::R)∧∀ n',(Ls.set j (A++(x,n')::B)).flatten.Perm ((x,n')::R):=by
 have hp:∀ n',∃ X Y,(Ls.set j (A++(x,n')::B)).flatten=X++(A++(x,n')::B)++Y∧Ls.flatten=X++(A++(x,n)::B)++Y:=fun n'=>by
  obtain ⟨X,Y,e1,e2⟩:=lev_set (S':=A++(x,n')::B) h;exact ⟨X,Y,e2,e1⟩
 obtain ⟨hj,e⟩:=List.getElem?_eq_some_iff.1 h
 have e1:Ls.flatten=(Ls.take j).flatten++(A++(x,n)::B)++(Ls.drop (j+1)).flatten:=by
  conv=>lhs;rw [← List.take_append_drop j Ls,List.drop_eq_getElem_cons hj,e]
  simp
 have e2:∀ n',(Ls.set j (A++(x,n')::B)).flatten=(Ls.take j).flatten++(A++(x,n')::B)++(Ls.drop (j+1)).flatten:=fun n'=>by
  rw [List.set_eq_take_append_cons_drop,if_pos hj];simp
 have e3:∀ n',((Ls.take j).flatten++(A++(x,n')::B)++(Ls.drop (j+1)).flatten).Perm ((x,n')::((Ls.take j).flatten++A++(B++(Ls.drop (j+1)).flatten))):=fun n'=>by
  have:(Ls.take j).flatten++(A++(x,n')::B)++(Ls.drop (j+1)).flatten=((Ls.take j).flatten++A)++(x,n')::(B++(Ls.drop (j+1)).flatten):=by simp
  rw [this];exact List.perm_middle
 exact ⟨_,by rw [e1];exact e3 n,fun n'=>by rw [e2];exact e3 n'⟩
end
section
variable {w0 w w':World} {T T':TS} {Y:List Ly} {C:Cont Str} {k pt:Nat} {l l1:Ly} {r:Hd}
theorem MTw.yl (h:MTw w0 w T Y C k pt):16*(Y.length - 1)≤pt:=by
 have:=h.wy.wb.pot
 unfold M.pot at this
 omega
theorem MTw.tr (h:MTw w0 w T Y C k pt) (hk:k≤1000) (hpt:pt≤100000):MTr w0 w T Y C:=by
 have h1:=h.yl
 have hs:SaneY Y:=h.wy.wb.sane h.wy.ok (h.mf.nd) (by omega) (by omega)
 exact ⟨h.mf.am,hs,h.ct,h.ro,h.mf.fl,h.mf.kd,h.ly,h.n⟩
theorem MTw.hgt (h:MTw w0 w T Y C k pt) (hk:k≤1000) (hpt:pt≤100000) (hl:l∈Y):l.Ls.length≤14:=by
 have h1:=h.yl
 obtain ⟨_,h2,_⟩:=(h.wy.ok.tow l hl).size (h.wy.wb.thk l hl)
 have h3:=le_lvs hl
 have h4:=h.wy.wb.lv
 have:l.Ls.length - 1 < 14:=(Nat.pow_lt_pow_iff_right (a:=2) (by omega)).1 (by omega)
 omega
theorem MTw.on (h:MTw w0 w T Y C k pt) (hA:AM w0 w' T):MTw w0 w' T Y C k pt:=⟨h.mf.on hA,h.wy,h.ct,h.ro,h.ly,h.n⟩
theorem root_turn {F':List Ly} {l0:Ly} (e:Y=l0::F'):∃ F2,turnL Y l l1=(if l0.pre=l.pre then l1 else l0)::F2:=by rw [e];exact ⟨_,rfl⟩
theorem flat_at (h:MOK Y) (hl:l∈Y):(flat Y).Perm (l.Ls.flatten++flat (rest1 Y l)):=flat_self h.pre hl
theorem MTr.leafAt (h : MTr w0 w T Y C) (hl : l ∈ Y) (km : Str) : ∃ (R0 : Lev Sl) (x1 : Hd) (nd : ND) (q : Nat) (f : LF), l.Ls[0]? = some R0 ∧ atK R0 km = some (x1, f.bn) ∧ (x1, nd) ∈ T.F ∧ EntAt T x1 q ∧ nd.cs = .bool true :: (lfc f ++ zic) ∧ nd.bn = f.bn ∧ LFOK f ∧ (pathOf l.Ls km)[l.Ls.length - 1]? = some x1 ∧
    M.cget (content l.Ls) km=(if hasK km f.bn.keys then f.bn.vals[cut km f.bn.keys]? else none)∧(x1,f.bn)∈l.Ls.flatten:=by
 have htw:=h.sane.ok.tow l hl
 obtain ⟨x0,hx0⟩:=htw.top
 have hlen0:=(List.getElem?_eq_some_iff.1 hx0).1
 obtain ⟨R0,hR⟩:∃ R,l.Ls[0]?=some R:=⟨_,List.getElem?_eq_getElem (by omega)⟩
 obtain ⟨⟨x1,xn⟩,hx⟩:=htw.at hR km
 have hpg:=pathOf_get hR hx
 obtain ⟨_,hlf,hget⟩:=htw.get hR hx
 have hmem:=mem_flat hR (atK_mem hx).1
 obtain ⟨e,nd,hnF,hbn,_,_,_,_,hseen,_⟩:=h.node (x:=(x1,xn)) (List.mem_flatMap.2 ⟨l,hl,hmem⟩)
 simp only at hbn hlf hget hpg
 obtain ⟨q,hq,_⟩:=h.am.getE hnF
 rcases hseen.cases with ⟨f,s1,s2,s3,s4⟩ | ⟨s1,_⟩
 ·have e:xn=f.bn:=hbn.symm.trans s1
  subst e;exact ⟨R0,x1,nd,q,f,hR,hx,hnF,hq,s4,s1,s3,hpg,hget,hmem⟩
 ·rw [hbn,hlf] at s1;cases s1
theorem UpAt.ok (h : MOK Y) {i : Nat} {up : Hd} {mk : Mk} (hup : UpAt Y l i up mk) (hi : i ≠ 0) : ∃ (lp : Ly) (sp : Sl) (nlp : BN Sl) (A B : Lev Sl), lp ∈ Y ∧ M.cget (content lp.Ls) (mT sp.m) = some sp ∧ sp.deep = true ∧ l.pre = lp.pre ++ ube 8 sp.m.s ∧ mk = sp.m ∧ lp.pre ≠ l.pre ∧
    lp.Ls[0]?=some (A++(up,nlp)::B)∧atK (A++(up,nlp)::B) (mT sp.m)=some (up,nlp)∧nlp.leaf=true∧nlp.covers (mT mk)=true∧hasK (mT mk) nlp.keys=true∧MkOK mk∧mk.c=9∧sp.rest=s0∧sp.val=s0:=by
 rcases hup with h0 | ⟨lp,sp,h1,h2,h3,h4,h5,h6⟩
 ·exact absurd h0 hi
 ·have htw:=h.tow lp h1
  obtain ⟨x0,hx0⟩:=htw.top;have hlen0:=(List.getElem?_eq_some_iff.1 hx0).1;obtain ⟨R0,hR⟩:∃ R,lp.Ls[0]?=some R:=⟨_,List.getElem?_eq_getElem (by omega)⟩;obtain ⟨⟨x1,xn⟩,hx⟩:=htw.at hR (mT sp.m);obtain ⟨_,hlf,hget⟩:=htw.get hR hx;have hin:=(h.cget h1).1 h2;obtain ⟨_,hso⟩:=h.key lp h1 _ hin;obtain ⟨A,B,e,hcv,_⟩:=atK_split hx;have e1:up=x1:=by rw [h6,List.getD_eq_getElem?_getD,hR];exact hdl_of hx
  subst e1 e h5
  have hk:hasK (mT sp.m) xn.keys=true:=by
   rw [h2] at hget
   cases hh:hasK (mT sp.m) xn.keys
   ·simp only [hh] at hget;cases hget
   ·rfl
  obtain ⟨d1,d2,d3⟩:=hso.dp h3;refine ⟨lp,sp,xn,A,B,h1,h2,h3,h4,rfl,fun e=>?_,hR,hx,hlf,hcv,hk,hso.m,d1,d2,d3⟩;have:=congrArg List.length (e.trans h4);rw [List.length_append,ube_len] at this;omega
theorem UpAt.upOK (h:MOK Y) {i:Nat} {up:Hd} {mk:Mk} (hup:UpAt Y l i up mk) (hi:i≠0):UpOK (flat (rest1 Y l)) up mk:=by
 obtain ⟨lp,sp,nlp,A,B,h1,h2,h3,h4,h5,h6,h7,h8,h9,h10,h11,h12,h13,h14,h15⟩:=hup.ok h hi
 have hm:(up,nlp)∈flat (rest1 Y l):=List.mem_flatMap.2 ⟨lp,List.mem_filter.2 ⟨h1,by simpa using h6⟩,mem_flat h7 (by simp)⟩
 obtain ⟨X,Z,e⟩:=List.append_of_mem hm
 exact ⟨nlp,X++Z,by rw [e];exact List.perm_middle,h9,h10,h11,h12,h13⟩
end
section
variable {w0 w w1 w':World} {T T':TS} {Y:List Ly} {C:Cont Str} {k pt:Nat} {l:Ly} {key v:Str} {i:Nat} {up:Hd} {mk:Mk}
def PutY (Y Y':List Ly) (key:Str):Prop :=
 ((∀ l,l∈Y→Fat l.Ls)→∀ l,l∈Y'→Fat l.Ls) ∧
 (Y'.map (·.pre)=Y.map (·.pre)∨∃ i l so v hs,On Y key i l∧M.cget (content l.Ls) (mT (mkAt key i))=some so∧so.deep=false∧bl so.rest≠keyAt key (i+1)∧hs.length=alk (bl so.rest) (keyAt key (i+1))+1 ∧
  Y'.map (·.pre)=Y.map (·.pre)++(bothN (l.pre++ube 8 so.m.s) (bl so.rest) (keyAt key (i+1)) so.val v hs).map (·.pre))
theorem fat_turn {l0 l1:Ly} (hl:l0∈Y) (h1:Fat l0.Ls→Fat l1.Ls) (h:∀ l,l∈Y→Fat l.Ls):∀ l,l∈turnL Y l0 l1→Fat l.Ls:=fun z hz=>by
 rcases (turnL_mem hl z).1 hz with rfl | ⟨h2,_⟩
 ·exact h1 (h l0 hl)
 ·exact h z h2
theorem bothN_one:∀ (hs:List Hd) (p a b:Byt) (v w:Str),∀ l,l∈bothN p a b v w hs→l.Ls.length=1
 | [],_,_,_,_,_,_,h=>by cases h
 | [h0],p,a,b,v,w,l,h=>by
  unfold bothN at h;simp only [List.mem_cons,List.not_mem_nil,or_false] at h;rw [h];rfl
 | h0::h1::hs,p,a,b,v,w,l,h=>by
  unfold bothN at h;rcases List.mem_cons.1 h with h | h
  ·rw [h];rfl
  ·exact bothN_one (h1::hs) _ _ _ _ _ l h
def PutL (w0 w:World) (T:TS) (Y:List Ly) (C:Cont Str) (k pt:Nat) (key v:Str) (w':World):Prop :=
 ∃ (T':TS) (Y':List Ly),MF w0 w' T' (flat Y')∧WY Y' (Y'.length+(k+1)) (pt+key.size)∧MCt Y' (cput C key v)∧(∃ l F',Y'=l::F'∧l.r=T'.r)∧T'.ly=Y'.length∧T'.n=T.n∧TEv w w' T T'∧EvoY Y Y'∧PutY Y Y' key
theorem SetF.put (h : MTw w0 w1 T Y C k pt) (ho : On Y key i l) (hup : UpAt Y l i up mk) (hold : ∀ so, M.cget (content l.Ls) (mT (slOf (keyAt key i) v).m) = some so → so.deep = false ∧ so.rest = (slOf (keyAt key i) v).rest)
    (hS:SetF w0 w T l.Ls (cput (content l.Ls) (mT (slOf (keyAt key i) v).m) (slOf (keyAt key i) v)) l.r (flat (rest1 Y l)) i up mk w'):PutL w0 w T Y C k pt key v w':=by
 obtain ⟨T',Ls',r',hE,hn,hly,⟨hL,hfat⟩,hc⟩:=hS
 have hM:=h.wy.ok
 obtain ⟨l0,F',hY,hr⟩:=h.ro
 have hlv:Y.length+k+1=Y.length+(k+1):=by omega
 rcases hc with ⟨rfl,h1,h2⟩ | ⟨rfl,h1,h2⟩ | ⟨hi,h1,nlp',Z',hZ,_,h2⟩
 ·obtain ⟨a,b,c⟩:=h.wy.put h.ct ho hold hL
  refine ⟨T',_,h2.perm (flat_turn (l1:=⟨l.pre,Ls',l.r⟩) hM.pre ho.mem).symm,?_,b,?_,by rw [turnL_len];exact hly.trans h.ly,hn,hE,c,fat_turn ho.mem hfat,.inl (turnL_pre rfl)⟩
  ·rw [turnL_len,← hlv];exact a
  ·obtain ⟨F2,e⟩:=root_turn (l:=l) (l1:=⟨l.pre,Ls',l.r⟩) hY
   refine ⟨_,F2,e,?_⟩;rw [h1,← hr];split
   ·rename_i e2
    show l.r=l0.r
    rw [hM.uniq ho.mem (by rw [hY];simp) e2.symm]
   ·rfl
 ·obtain ⟨a,b,c⟩:=h.wy.putR h.ct ho hold hL
  refine ⟨T',_,h2.perm (flat_turn (l1:=⟨l.pre,Ls',r'⟩) hM.pre ho.mem).symm,?_,b,?_,by rw [turnL_len];exact hly.trans h.ly,hn,hE,c,fat_turn ho.mem hfat,.inl (turnL_pre rfl)⟩
  ·rw [turnL_len,← hlv];exact a
  ·obtain ⟨F2,e⟩:=root_turn (l:=l) (l1:=⟨l.pre,Ls',r'⟩) hY
   refine ⟨_,F2,e,?_⟩
   have e0:l0.pre=l.pre:=by
    obtain ⟨a0,F0,e3,e4⟩:=hM.root;rw [hY] at e3;injection e3 with e3 _;rw [e3,e4,ho.pre];rfl
   rw [if_pos e0,h1]
 ·obtain ⟨lp,sp,nlp,A,B,g1,g2,g3,g4,g5,g6,g7,g8,g9,g10,g11,g12,g13,g14,g15⟩:=hup.ok hM hi
  subst g5;have hpm:=flat_at hM ho.mem
  have e1:nlp=nlp':=by
   have hnd:=h.mf.nd;have hm1:(up,nlp')∈flat Y:=hpm.mem_iff.2 (List.mem_append_right _ (hZ.mem_iff.2 (List.mem_cons_self ..)));have hm2:(up,nlp)∈flat Y:=List.mem_flatMap.2 ⟨lp,g1,mem_flat g7 (by simp)⟩;have:=nd_inj (f:=fun z:Hd×BN Sl=>z.1) hnd hm2 hm1 rfl;injection this
  subst e1
  have hsp:(⟨sp.m,s0,s0,true,r'⟩:Sl)={ sp with link:=r' }:=by
   show _=Sl.mk sp.m sp.rest sp.val sp.deep r'
   rw [g14,g15,g3]
  obtain ⟨A2,B2,eAB,hpi⟩:=(hM.tow lp g1).put (h.wy.wb.thk lp g1) (h.wy.wb.slim lp g1) (h.wy.wb.top lp g1) g7 g8 { sp with link:=r' };have hput:=put_ends nlp (mT sp.m) { sp with link:=r' };have hkl:=hput.2.2.2.2.2;rw [g11] at hkl;have hle:nlp.keys.length≤cap 0:=h.wy.wb.slim lp g1 0 _ g7 (up,nlp) (by simp)
  have hLp:LvOK lp.Ls (lp.Ls.set 0 (A2++(up,nlp.put (mT sp.m) { sp with link:=r' })::B2)) (cput (content lp.Ls) (mT sp.m) { sp with link:=r' }) lp.r :=
   ⟨hpi.tow,hpi.thk,hpi.fin (by rw [hkl];simpa using hle),hpi.con,by have:=hpi.lvs;simp at this;omega,hpi.top,hpi.evo⟩
  obtain ⟨a,b,c⟩:=h.wy.putU h.ct ho hold hL g1 g2 g3 g4 hLp (by have:=hpi.lvs;simp at this;omega);have g7':=g7;rw [eAB] at g7';obtain ⟨R3,p1,p2⟩:=flat_one g7';have hnp1:((turnL Y l ⟨l.pre,Ls',r'⟩).map (·.pre)).Nodup:=by rw [turnL_pre (l0:=l) (l1:=⟨l.pre,Ls',r'⟩) rfl];exact hM.pre
  have hlq:lp∈turnL Y l ⟨l.pre,Ls',r'⟩:=(turnL_mem ho.mem _).2 (.inr ⟨g1,g6⟩);refine ⟨T',_,h2.perm ?_,?_,b,?_,by rw [turnL_len,turnL_len];exact hly.trans h.ly,hn,hE,c,fun hf=>fat_turn hlq hpi.fat (fat_turn ho.mem hfat hf),.inl ((turnL_pre (l0:=lp) (l1:=⟨lp.pre,lp.Ls.set 0 (A2++(up,nlp.put (mT sp.m) { sp with link:=r' })::B2),lp.r⟩) rfl).trans (turnL_pre (l0:=l) (l1:=⟨l.pre,Ls',r'⟩) rfl))⟩
  ·have q1:=(flat_turn (l1:=⟨l.pre,Ls',r'⟩) hM.pre ho.mem)
   have q2:=flat_self hnp1 hlq;have q3:=flat_turn (l1:=⟨lp.pre,lp.Ls.set 0 (A2++(up,nlp.put (mT sp.m) { sp with link:=r' })::B2),lp.r⟩) hnp1 hlq
   have q4:(Ls'.flatten++(up,nlp)::Z').Perm ((up,nlp)::(R3++flat (rest1 (turnL Y l ⟨l.pre,Ls',r'⟩) lp))) :=
    ((List.Perm.append_left _ hZ.symm).trans q1.symm).trans (q2.trans (p1.append_right _))
   have q5:(Ls'.flatten++Z').Perm (R3++flat (rest1 (turnL Y l ⟨l.pre,Ls',r'⟩) lp)):=List.Perm.cons_inv (List.perm_middle.symm.trans q4);rw [hsp];refine List.Perm.trans ?_ q3.symm;refine List.Perm.trans ?_ ((p2 _).append_right _).symm;exact List.perm_middle.trans (q5.cons _)
  ·rw [turnL_len,turnL_len,← hlv];exact a
  ·obtain ⟨F2,e⟩:=root_turn (l:=l) (l1:=⟨l.pre,Ls',r'⟩) hY
   have e0:l0.pre≠l.pre:=fun e0=>by
    obtain ⟨a0,F0,e3,e4⟩:=hM.root;rw [hY] at e3;injection e3 with e3 _;rw [e3,e4,g4] at e0;have:=congrArg List.length e0;rw [List.length_append,ube_len] at this;simp at this
   rw [if_neg e0] at e;obtain ⟨F3,e9⟩:=root_turn (l:=lp) (l1:=⟨lp.pre,lp.Ls.set 0 (A2++(up,nlp.put (mT sp.m) { sp with link:=r' })::B2),lp.r⟩) e;refine ⟨_,F3,e9,?_⟩;rw [h1,← hr];split
   ·rename_i e2
    show lp.r=l0.r
    rw [hM.uniq g1 (by rw [hY];simp) e2.symm]
   ·rfl
theorem MTw.leafPut {R0 : Lev Sl} {x1 : Hd} {n : BN Sl} (h : MTw w0 w1 T Y C k pt) (hl : l ∈ Y) {km : Str} (hR : l.Ls[0]? = some R0) (hx : atK R0 km = some (x1, n)) (s : Sl) :
    ∃ A B G',(flat Y).Perm ((x1,n)::G')∧PutI l.Ls km (cput (content l.Ls) km s) l.r 0 x1 (n.put km s) A B (l.Ls.set 0 (A++(x1,n.put km s)::B))∧((x1,n.put km s)::G').Perm ((l.Ls.set 0 (A++(x1,n.put km s)::B)).flatten++flat (rest1 Y l)):=by
 have hM:=h.wy.ok
 obtain ⟨A,B,e,hpi⟩:=(hM.tow l hl).put (h.wy.wb.thk l hl) (h.wy.wb.slim l hl) (h.wy.wb.top l hl) hR hx s
 rw [e] at hR
 obtain ⟨R,p1,p2⟩:=flat_one hR
 exact ⟨A,B,R++flat (rest1 Y l),(flat_at hM hl).trans (p1.append_right _),hpi,((p2 _).append_right _).symm⟩
theorem MTw.leafSI {R0 : Lev Sl} {x1 : Hd} {n : BN Sl} {T1 : TS} {g : LF} (h : MTw w0 w1 T Y C k pt) (hl : l ∈ Y) {km : Str} (hR : l.Ls[0]? = some R0) (hx : atK R0 km = some (x1, n)) (s : Sl) (hA : AM w0 w' T1) (hF : T1.F = fset T.F x1 (leafN g)) (hg : g.bn = n.put km s)
    (hn:T1.n=T.n) (hly:T1.ly=T.ly) (hr:T1.r=T.r) (hfr:T1.free=T.free) (hroom:hasK km n.keys=true∨needOf 0 l.Ls km≤T.free.count true) :
    ∃ A B,SI w0 w' T1 T1 l.Ls km (cput (content l.Ls) km s) l.r (flat (rest1 Y l)) 0 x1 (n.put km s) A B (l.Ls.set 0 (A++(x1,n.put km s)::B))∧SI w0 w' T T1 l.Ls km (cput (content l.Ls) km s) l.r (flat (rest1 Y l)) 0 x1 (n.put km s) A B (l.Ls.set 0 (A++(x1,n.put km s)::B)):=by
 obtain ⟨A,B,G',p1,hpi,p2⟩:=h.leafPut hl hR hx s
 have hm:MF w0 w' T1 ((l.Ls.set 0 (A++(x1,n.put km s)::B)).flatten++flat (rest1 Y l)):=by
  have:=(h.mf.perm p1).set hA hF (.inl ⟨g,rfl⟩);rw [show (leafN g).bn=n.put km s from hg] at this;exact this.perm p2
 have hrm:(n.put km s).keys.length=cap 0+1→1+needOf (0+1) (l.Ls.drop (0+1)) km≤T1.free.count true:=fun h5=>by
  have h6:=(put_ends n km s).2.2.2.2.2;have h4:n.keys.length≤cap 0:=h.wy.wb.slim l hl 0 R0 hR _ (atK_mem hx).1;rw [hfr];rcases hroom with h1 | h1
  ·rw [h1] at h6;simp at h6;omega
  ·have h2:=need_step (i:=0) hR hx
   have h3:¬ n.keys.length < cap 0:=fun hh=>by split at h6 <;> omega
   rw [if_neg h3,List.drop_zero] at h2;omega
 exact ⟨A,B,⟨hm,hpi,hrm,rfl,rfl,rfl⟩,⟨hm,hpi,hrm,hn,hly,hr⟩⟩
theorem SI.old {R0 : Lev Sl} {x1 : Hd} {n : BN Sl} {T1 : TS} {km : Str} {s : Sl} {Cx : Cont Sl} {A B : Lev Sl} {Ls' : List (Lev Sl)} {Z : List (Hd × BN Sl)} (h : MTw w0 w1 T Y C k pt) (hl : l ∈ Y) (hR : l.Ls[0]? = some R0) (hx : atK R0 km = some (x1, n)) (hk : hasK km n.keys = true)
    (hS:SI w0 w' T T1 l.Ls km Cx l.r Z 0 x1 (n.put km s) A B Ls') (hE:TEv w w' T T1):SetF w0 w T l.Ls Cx l.r Z i up mk w':=by
 refine hS.fin hE ?_
 have h6:=(put_ends n km s).2.2.2.2.2
 have h4:n.keys.length≤cap 0:=h.wy.wb.slim l hl 0 R0 hR _ (atK_mem hx).1
 rw [hk] at h6
 simp at h6
 omega
theorem SetF.base {T1:TS} {Ls0:List (Lev Sl)} {Cx:Cont Sl} {r:Hd} {Z:List (Hd×BN Sl)} (hS:SetF w0 w1 T1 Ls0 Cx r Z i up mk w') (hE:TEv w w1 T T1) (hn:T1.n=T.n) (hly:T1.ly=T.ly) (hr:T1.r=T.r):SetF w0 w T Ls0 Cx r Z i up mk w':=by
 obtain ⟨T',Ls',r',a,b,c,d,e⟩:=hS
 refine ⟨T',Ls',r',hE.trans a,b.trans hn,c.trans hly,d,?_⟩
 rcases e with ⟨e1,e2,e3⟩ | ⟨e1,e2,e3⟩ | ⟨e1,e2,e3⟩
 ·exact .inl ⟨e1,e2.trans hr,e3⟩
 ·exact .inr (.inl ⟨e1,e2,e3⟩)
 ·exact .inr (.inr ⟨e1,e2.trans hr,e3⟩)
theorem MTw.deepL {R0 : Lev Sl} {x1 : Hd} {n : BN Sl} {T1 T2 : TS} {g : LF} {w2 : World} {N : NF} {so : Sl} {hs : List Hd} {h0 : Hd} (h : MTw w0 w1 T Y C k pt) (ho : On Y key i l) (hg : M.cget (content l.Ls) (mT (mkAt key i)) = some so) (hd : so.deep = false) (hne : bl so.rest ≠ keyAt key (i + 1))
    (hR:l.Ls[0]?=some R0) (hx:atK R0 (mT so.m)=some (x1,n)) (hk:hasK (mT so.m) n.keys=true) (hl:hs.length=alk (bl so.rest) (keyAt key (i+1))) (hF1:T1.F=T.F++N) (hN:∀ p,(N.map fun z=>(z.1,z.2.bn))=flat (bothN p (bl so.rest) (keyAt key (i+1)) so.val v (h0::hs)))
    (hkd:∀ z,z∈N→(∃ f,z.2.k=.leaf f)∨∃ b,z.2.k=.inn b) (hA1:AM w0 w2 T1) (hA2:AM w0 w' T2) (hF2:T2.F=fset T1.F x1 (leafN g)) (hgb:g.bn=n.put (mT so.m) ⟨so.m,s0,s0,true,h0⟩) (hn:T2.n=T.n) (hly:T2.ly=T.ly+(hs.length+1)) (hr:T2.r=T.r) (hE:TEv w w' T T2):PutL w0 w T Y C k pt key v w':=by
 have hM:=h.wy.ok
 obtain ⟨A,B,G',p1,hpi,p2⟩:=h.leafPut ho.mem hR hx ⟨so.m,s0,s0,true,h0⟩
 have h6:=(put_ends n (mT so.m) (⟨so.m,s0,s0,true,h0⟩:Sl)).2.2.2.2.2
 have h4:n.keys.length≤cap 0:=h.wy.wb.slim l ho.mem 0 R0 hR _ (atK_mem hx).1
 rw [hk] at h6
 have hlv:=hpi.lvs
 simp at h6 hlv
 have hL:LvOK l.Ls (l.Ls.set 0 (A++(x1,n.put (mT so.m) ⟨so.m,s0,s0,true,h0⟩)::B)) (cput (content l.Ls) (mT so.m) ⟨so.m,s0,s0,true,h0⟩) l.r:=⟨hpi.tow,hpi.thk,hpi.fin (by omega),hpi.con,by omega,hpi.top,hpi.evo⟩
 obtain ⟨a,b,c⟩:=h.wy.deepen (v:=v) h.ct ho hg hd hne hl hL (by omega)
 have jl:=bothN_len (h0::hs) (l.pre++ube 8 so.m.s) (bl so.rest) (keyAt key (i+1)) so.val v
 have hM1:MF w0 w2 T1 ((x1,n)::(G'++flat (bothN (l.pre++ube 8 so.m.s) (bl so.rest) (keyAt key (i+1)) so.val v (h0::hs)))):=by
  refine ⟨hA1,?_,fun z hz=>?_⟩
  ·rw [hF1,List.map_append,hN (l.pre++ube 8 so.m.s)]
   exact (h.mf.fl.trans p1).append_right _
  ·rw [hF1] at hz
   rcases List.mem_append.1 hz with hz | hz
   ·exact h.mf.kd z hz
   ·exact hkd z hz
 have hM2:=hM1.set hA2 hF2 (.inl ⟨g,rfl⟩)
 rw [show (leafN g).bn=n.put (mT so.m) ⟨so.m,s0,s0,true,h0⟩ from hgb] at hM2
 obtain ⟨l0,F',hY,hrr⟩:=h.ro
 refine ⟨T2,_,hM2.perm ?_,?_,b,?_,?_,hn,hE,c,fun hf z hz=>?_,.inr ⟨i,l,so,v,h0::hs,ho,hg,hd,hne,by rw [List.length_cons,hl],by rw [List.map_append,turnL_pre (l0:=l) (l1:=⟨l.pre,l.Ls.set 0 (A++(x1,n.put (mT so.m) ⟨so.m,s0,s0,true,h0⟩)::B),l.r⟩) rfl]⟩⟩
 ·have q1:=flat_turn (l1:=⟨l.pre,l.Ls.set 0 (A++(x1,n.put (mT so.m) ⟨so.m,s0,s0,true,h0⟩)::B),l.r⟩) hM.pre ho.mem
  have e:flat (turnL Y l ⟨l.pre,l.Ls.set 0 (A++(x1,n.put (mT so.m) ⟨so.m,s0,s0,true,h0⟩)::B),l.r⟩++bothN (l.pre++ube 8 so.m.s) (bl so.rest) (keyAt key (i+1)) so.val v (h0::hs))=flat (turnL Y l ⟨l.pre,l.Ls.set 0 (A++(x1,n.put (mT so.m) ⟨so.m,s0,s0,true,h0⟩)::B),l.r⟩)++flat (bothN (l.pre++ube 8 so.m.s) (bl so.rest) (keyAt key (i+1)) so.val v (h0::hs)):=List.flatMap_append;rw [e];exact ((p2.trans q1.symm).append_right _)
 ·have e:(turnL Y l ⟨l.pre,l.Ls.set 0 (A++(x1,n.put (mT so.m) ⟨so.m,s0,s0,true,h0⟩)::B),l.r⟩++bothN (l.pre++ube 8 so.m.s) (bl so.rest) (keyAt key (i+1)) so.val v (h0::hs)).length=Y.length+(hs.length+1):=by rw [List.length_append,turnL_len,jl];rfl
  rw [e];exact ⟨a.ok,a.wb.mono (by omega) (Nat.le_refl _)⟩
 ·obtain ⟨F2,e⟩:=root_turn (l:=l) (l1:=⟨l.pre,l.Ls.set 0 (A++(x1,n.put (mT so.m) ⟨so.m,s0,s0,true,h0⟩)::B),l.r⟩) hY
  refine ⟨_,F2++bothN (l.pre++ube 8 so.m.s) (bl so.rest) (keyAt key (i+1)) so.val v (h0::hs),by rw [e];rfl,?_⟩;rw [hr,← hrr];split
  ·rename_i e2
   show l.r=l0.r
   rw [hM.uniq ho.mem (by rw [hY];simp) e2.symm]
  ·rfl
 ·rw [List.length_append,turnL_len,jl,hly,h.ly]
  rfl
 ·rcases List.mem_append.1 hz with hz | hz
  ·exact fat_turn ho.mem hpi.fat hf z hz
  ·exact .inl (bothN_one _ _ _ _ _ _ z hz)
theorem MTw.delL {R0 : Lev Sl} {x1 : Hd} {n : BN Sl} {T1 : TS} {g : LF} {s : Sl} (h : MTw w0 w1 T Y C k pt) (ho : On Y key i l) (hg : M.cget (content l.Ls) (mT (mkAt key i)) = some s) (hd : s.deep = false) (hsk : keyAt key i = sb s) (hR : l.Ls[0]? = some R0) (hx : atK R0 (mT (mkAt key i)) = some (x1, n))
    (hA:AM w0 w' T1) (hF:T1.F=fset T.F x1 (leafN g)) (hgb:g.bn=n.del (mT (mkAt key i))) (hly:T1.ly=T.ly) (hr:T1.r=T.r) :
    ∃ Y',MF w0 w' T1 (flat Y')∧WY Y' (Y'.length+k) pt∧MCt Y' (cdel C key)∧(∃ l F',Y'=l::F'∧l.r=T1.r)∧T1.ly=Y'.length∧(EvoY Y Y'∧Y'.map (·.pre)=Y.map (·.pre)):=by
 have hM:=h.wy.ok
 have htw:=hM.tow l ho.mem
 obtain ⟨A,B,e,d1,d2,d3,d4⟩:=htw.del (h.wy.wb.thk l ho.mem) hR hx
 simp only at d1 d2 d3 d4
 have hRR:=hR
 rw [e] at hR
 obtain ⟨R,p1,p2⟩:=flat_one hR
 have hends:(n.del (mT (mkAt key i))).high=n.high:=by unfold BN.del;split <;> rfl
 have hj0:=(List.getElem?_eq_some_iff.1 hR).1
 have hlv0:leaves (l.Ls.set 0 (A++(x1,n.del (mT (mkAt key i)))::B))=leaves l.Ls:=by
  rw [leaves_of hR,leaves_of (S:=A++(x1,n.del (mT (mkAt key i)))::B) (by rw [List.getElem?_set_self hj0])];simp
 have hevo:Evo l.Ls (l.Ls.set 0 (A++(x1,n.del (mT (mkAt key i)))::B)):=Evo.set hR fun z hz=>by
  rw [lows_same A s0 (x:=(x1,n)) (y:=(x1,n.del (mT (mkAt key i)))) B rfl hends.symm] at hz;exact hz
 have hL:LvOK l.Ls (l.Ls.set 0 (A++(x1,n.del (mT (mkAt key i)))::B)) (cdel (content l.Ls) (mT (mkAt key i))) l.r:=by
  refine ⟨d1,d2,d4 (h.wy.wb.slim l ho.mem),d3,by omega,?_,hevo⟩;obtain ⟨n0,ht⟩:=h.wy.wb.top l ho.mem;rw [List.length_set];by_cases h1:l.Ls.length - 1=0
  ·rw [h1] at ht ⊢
   rw [ht] at hR;injection hR with hR
   have hA0:A=[]:=by
    cases A with
    | nil=>rfl
    | cons a A=>simp at hR
   subst hA0;simp at hR;obtain ⟨e1,e2⟩:=hR;subst e2;exact ⟨n.del (mT (mkAt key i)),by rw [List.getElem?_set_self hj0,e1.1];rfl⟩
  ·exact ⟨n0,by rw [List.getElem?_set_ne (by omega)];exact ht⟩
 obtain ⟨a,b,c⟩:=h.wy.del h.ct ho hg hd hsk hL (by omega)
 obtain ⟨l0,F',hY,hrr⟩:=h.ro
 have hM2:=(h.mf.perm ((flat_at hM ho.mem).trans (p1.append_right _))).set hA hF (.inl ⟨g,rfl⟩)
 rw [show (leafN g).bn=n.del (mT (mkAt key i)) from hgb] at hM2
 refine ⟨_,hM2.perm ?_,?_,b,?_,by rw [turnL_len];exact hly.trans h.ly,c,turnL_pre rfl⟩
 ·exact ((p2 _).append_right _).symm.trans (flat_turn (l1:=⟨l.pre,l.Ls.set 0 (A++(x1,n.del (mT (mkAt key i)))::B),l.r⟩) hM.pre ho.mem).symm
 ·rw [turnL_len];exact a
 ·obtain ⟨F2,e9⟩:=root_turn (l:=l) (l1:=⟨l.pre,l.Ls.set 0 (A++(x1,n.del (mT (mkAt key i)))::B),l.r⟩) hY
  refine ⟨_,F2,e9,?_⟩;rw [hr,← hrr];split
  ·rename_i e2
   show l.r=l0.r
   rw [hM.uniq ho.mem (by rw [hY];simp) e2.symm]
  ·rfl
def FullF (T:TS) (Y:List Ly) (key:Str) (pt:Nat):Prop:=∃ n,T.free.count true < n∧((n≤15∧∃ l,l∈Y∧n≤l.Ls.length+1)∨(16*(Y.length+n - 1)≤pt+key.size∧n≤1+key.size / 8))
theorem le_sumS {α:Type} (g:α→Nat) {x:α}:∀ {L:List α},x∈L→g x≤(L.map g).sum
 | [],h=>by simp at h
 | a::L,h=>by
  rcases List.mem_cons.1 h with rfl | h
  ·simp
  ·have:=le_sumS g h
   simp only [List.map_cons,List.sum_cons];omega
theorem MTw.fullD {so:Sl} (h:MTw w0 w1 T Y C k pt) (ho:On Y key i l) (hg:M.cget (content l.Ls) (mT (mkAt key i))=some so) (hd:so.deep=false) (hne:bl so.rest≠keyAt key (i+1)) (hf:T.free.count true < 1+alk (bl so.rest) (keyAt key (i+1))):FullF T Y key pt:=by
 obtain ⟨c1,c2,c3,c4,c5,c6⟩:=clash h.wy.ok ho hg hd hne
 have hin:=(h.wy.ok.cget ho.mem).1 hg
 have e1:ptS so≤ptL l:=le_sumS (fun x:Str×Sl=>ptS x.2) hin
 have e2:ptL l≤(Y.map ptL).sum:=le_sumS ptL ho.mem
 have e3:=h.wy.wb.pot
 unfold M.pot at e3
 have e4:ptS so=(bl so.rest).length+8:=by
  unfold ptS;rw [if_neg (by have:=List.length_pos_iff.2 c3;omega)]
 have hp:=both_pot (v:=so.val) (w:=s0) c3 c4 (n:=alk (bl so.rest) (keyAt key (i+1))) rfl
 have hal:=alk_lt _ _ _ (Nat.le_refl _) c3 c4
 have hkl:=keyAt_len key (i+1)
 have hk0:=List.length_pos_iff.2 c4
 have hY:1≤Y.length:=List.length_pos_of_mem ho.mem
 exact ⟨_,hf,.inr ⟨by omega,by omega⟩⟩
end
open Go.RowKit
def PutE (w0 w:World) (T:TS) (Y:List Ly) (C:Cont Str) (k pt:Nat) (key v:Str) (e:Ending) (w':World):Prop :=
 (e=.returned (.tuple #[.string ((M.cget C key).getD s0),.bool (M.cget C key).isSome,.int .i64 0])∧∃ T' Y',MTw w0 w' T' Y' (cput C key v) (k+1) (pt+key.size)∧TEv w w' T T'∧(EvoY Y Y'∧PutY Y Y' key)) ∨
 (e=.returned (.tuple #[.string s0,.bool false,.int .i64 5])∧M.cget C key=none∧FullF T Y key pt∧AM w0 w' T∧TEv w w' T T)
theorem PutL.mtw {w0 w w1 w' : World} {T : TS} {Y : List Ly} {C : Cont Str} {k pt : Nat} {key v : Str} (_h : MTw w0 w1 T Y C k pt) (hP : PutL w0 w T Y C k pt key v w') :
    ∃ T' Y',(∀ w2 T2,AM w0 w2 T2→T2.F=T'.F→T2.r=T'.r→T2.ly=T'.ly→T2.n=(cput C key v).length→MTw w0 w2 T2 Y' (cput C key v) (k+1) (pt+key.size))∧AM w0 w' T'∧TEv w w' T T'∧(EvoY Y Y'∧PutY Y Y' key)∧T'.n=T.n:=by
 obtain ⟨T',Y',a,b,c,⟨l,F',e,er⟩,ly,n,ev,evo⟩:=hP
 exact ⟨T',Y',fun w2 T2 hA hF hr hl hn=>⟨a.same hA hF,b,c,⟨l,F',e,er.trans hr.symm⟩,hl.trans ly,hn⟩,a.am,ev,evo,n⟩
theorem toList_inj {a b:Str} (h:a.toList=b.toList):a=b:=by
 rw [ByteArray.toList_eq,ByteArray.toList_eq] at h
 exact bl_inj h
theorem slOf_key (key v:Str) (i:Nat):slOf (keyAt key i) v=⟨mkAt key i,bs (keyAt key (i+1)),v,false,(0,0)⟩:=by
 unfold slOf
 congr 2
 show ((bl key).drop (8*i)).drop 8=(bl key).drop (8*(i+1))
 rw [List.drop_drop]
 rfl
section
variable {Y:List Ly} {C:Cont Str} {key:Str} {i:Nat} {l:Ly} {s:Sl} {is:Bool} {rs:Str} {f:LF}
theorem find_cget (h : MOK Y) (hct : MCt Y C) (ho : On Y key i l) (hrs : rs = bs (keyAt key (i + 1))) (h1 : is = true → M.cget (content l.Ls) (mT (mkAt key i)) = some s ∧ s.deep = false) (h2 : is = false → M.cget (content l.Ls) (mT (mkAt key i)) = none) :
    M.cget C key=if is=true∧s.rest=rs then some s.val else none:=by
 cases is
 ·rw [hct.none h ho (h2 rfl)];simp
 ·obtain ⟨a,b⟩:=h1 rfl
  rw [hct.plain h ho a b];by_cases e:s.rest=rs
  ·rw [if_pos (by rw [e,hrs,bl_bs]),if_pos ⟨rfl,e⟩]
  ·rw [if_neg (fun e2=>e (by rw [hrs,← e2,bs_bl])),if_neg (fun e2=>e e2.2)]
theorem find_has (hg:M.cget (content l.Ls) (mT (mkAt key i))=(if hasK (mT (mkAt key i)) f.bn.keys then f.bn.vals[cut (mT (mkAt key i)) f.bn.keys]? else none)) (h1:is=true→M.cget (content l.Ls) (mT (mkAt key i))=some s∧s.deep=false) (h2:is=false→M.cget (content l.Ls) (mT (mkAt key i))=none) (hf:f.bn.vals.length=f.bn.keys.length):hasK (mT (mkAt key i)) f.bn.keys=is:=by
 cases hh:hasK (mT (mkAt key i)) f.bn.keys
 ·cases is
  ·rfl
  ·rw [hh,(h1 rfl).1] at hg;cases hg
 ·cases is
  ·rw [hh,h2 rfl] at hg
   have hk:=(List.getElem?_eq_some_iff.1 (hasK_iff.1 hh)).1;rw [if_pos rfl] at hg;have:=List.getElem?_eq_none_iff.1 hg.symm;omega
  ·rfl
end
set_option maxRecDepth 100000 in
set_option maxHeartbeats 4000000 in
theorem MTw.put {w0 w : World} {T : TS} {Y : List Ly} {C : Cont Str} {k pt : Nat} (h : MTw w0 w T Y C k pt) (hk : k ≤ 1000) (hpt : pt ≤ 100000) (key v : Str) (hks : key.size ≤ 100000) (hCn : C.length ≤ 1000000000) :
    Calls Tryz.prog 22 #[.pointer (some ⟨T.t,0,none⟩),.string key,.string v] w (PutE w0 w T Y C k pt key v):=by
 have hTr:=h.tr hk hpt
 have hFi:=qh (hTr.find key (by omega))
 have c1:=h.mf.am.cells.2.1
 have c6:=h.mf.am.cells.2.2.2.2.2.2.1
 have htl:=block_lt_of_cell c1
 have hNo:=qh (none_ok c1)
 obtain ⟨A,hAe⟩:∃ a,a=T.d.A.a:=⟨_,rfl⟩
 have hS0:=MS.start h.mf.am
 replace hS0:=qh hS0
 replace hAe:=qh hAe
 replace h:=qh h
 replace hTr:=qh hTr
 go_enter Tryz.func22,Tryz.ntmps22
 go_wp2_with fail
 refine hNo.out.mono ?_
 rintro z1 w1 ⟨rfl,rfl⟩
 go_wp2_with fail
 refine hFi.out.mono ?_
 clear hFi
 rintro z2 w2 ⟨i,l,pa,pc,up,mk,s,is,po,rfl,hon,hup,⟨hpo,hpge,hrow⟩,hA2,hE2,hist,hisf⟩
 have hpr:T.ρ pa=0:=h.out.mf.am.bw.ro.far _ hpge
 have hS2:=(hS0.out.call hA2 hE2).add hpo hpge hpr (fun x hx=>by cases hx)
 clear hpo
 obtain ⟨N,hN⟩:∃ N,N=l.Ls.length:=⟨_,rfl⟩
 rw [← hN] at hrow
 unfold slc
 have hik:i≤key.size:=hon.lt.elim (fun h9=>by omega) (fun h9=>by have:(bl key).length=key.size:=rfl;omega)
 have hN1:N≤14:=by rw [hN];exact h.out.hgt hk hpt hon.mem
 obtain ⟨R0,x1,nd,q,f,hR,hx,hnF,hq,hcs,hnb,hf,hpg,hget,hmemf⟩:=hTr.out.leafAt hon.mem (mT (mkAt key i))
 have hN0:0 < N:=by have:=(List.getElem?_eq_some_iff.1 hR).1;omega
 rw [← hN] at hpg
 have hmk:MkOK (mkAt key i):=mkOf_ok (keyAt key i)
 have hSl:=qh fun W=>mtSlot_any key v i (by omega) (by omega) W
 have hcov:=cov_of hf hmk (atK_mem hx).2
 have hfn:f.n≤6:=by have h9:=h.out.wy.wb.slim l hon.mem 0 R0 hR _ (atK_mem hx).1;simp only at h9;rw [hf.klen] at h9;exact h9
 have hMOK:=h.out.wy.ok
 have hso:is=true→s.m=mkAt key i∧SlOK s:=fun h9=>hMOK.slot hon.mem (mkOf_b _) (hist h9).1
 obtain ⟨rs,hrs⟩:∃ r,r=bs (keyAt key (i+1)):=⟨_,rfl⟩
 have hs9:slOf (keyAt key i) v=⟨mkAt key i,rs,v,false,(0,0)⟩:=by rw [hrs];exact slOf_key key v i
 rw [← hrs] at hSl
 have hvl:f.bn.vals.length=f.bn.keys.length:=by rw [hf.klen];exact hf.len
 have hcg:=find_cget hMOK h.out.ct hon hrs hist hisf
 have hhas:=find_has hget hist hisf hvl
 have hAt:Hid (∀ W L,MS w0 w T W T L→W.heap[q]?=some (.cells (.int .u64 x1.2::.bool true::(lfc f++zic)).toArray 192)):=qh fun W L hS=>by have:=hS.am.at hnF hq;rw [hcs] at this;exact this
 have hG:Hid (∀ W L,MS w0 w T W T L→Calls Tryz.prog 62 #[.pointer (some ⟨A,0,none⟩),.agg #[.int .i64 x1.1,.int .u64 x1.2]] W fun y W'=>y=.returned (.tuple #[.pointer (some ⟨q,1,none⟩),.bool true])∧Below W.heap.size W W'):=qh fun W L hS=>by rw [hAe.out];exact hS.getQ hq
 have hcl:=lfc_len hf.S
 obtain ⟨cs,hcse⟩:∃ c,c=lfc f:=⟨_,rfl⟩
 obtain ⟨y,hy⟩:∃ c,c=zic:=⟨_,rfl⟩
 have hylen:y.length=8:=by rw [hy];rfl
 rw [← hcse,← hy] at hAt
 rw [← hcse] at hcl
 obtain ⟨m,hm⟩:∃ m,m=mkAt key i:=⟨_,rfl⟩
 rw [← hm] at hSl
 have hplen:=pathOf_len l.Ls (mT (mkAt key i))
 rw [← hN] at hplen
 have hpk:Hid (∀ W:World,W.heap[pa]?=some po→W.cell? ⟨pa,(N - 1)*2,none⟩=some (.int .i64 x1.1)∧W.cell? ⟨pa,(N - 1)*2+1,none⟩=some (.int .u64 x1.2)∧pa < W.heap.size∧N≤pc):=qh fun W hW=>by
  obtain ⟨b',c',ev,_,_,_,h5,_,_,hat⟩:=(hrow W hW).at hpg;injection ev with ev _ ev2;injection ev with ev;injection ev with ev;subst ev ev2;exact ⟨hat 0 _ rfl,hat 1 _ rfl,heap_lt hW,by omega⟩
 have hNc:=(hpk.out w2 (hS2.nth 0 rfl)).2.2.2
 replace hrow:=qh hrow
 replace hpg:=qh hpg
 replace hR:=qh hR
 replace hx:=qh hx
 replace hnF:=qh hnF
 replace hq:=qh hq
 replace hcs:=qh hcs
 replace hnb:=qh hnb
 replace hf:=qh hf
 replace hget:=qh hget
 replace hmemf:=qh hmemf
 replace hmk:=qh hmk
 replace hcov:=qh hcov
 replace hfn:=qh hfn
 replace hMOK:=qh hMOK
 replace hso:=qh hso
 replace hrs:=qh hrs
 replace hs9:=qh hs9
 replace hcg:=qh hcg
 replace hhas:=qh hhas
 replace hcse:=qh hcse
 replace hy:=qh hy
 replace hcl:=qh hcl
 replace hylen:=qh hylen
 replace hm:=qh hm
 replace hN:=qh hN
 replace hon:=qh hon
 replace hup:=qh hup
 replace hist:=qh hist
 replace hisf:=qh hisf
 replace hpr:=qh hpr
 replace hpge:=qh hpge
 replace hvl:=qh hvl
 replace hplen:=qh hplen
 clear hA2 hE2
 go_upto_region 6 with fail
 rw [← hN.out]
 have hS3:=(hS2.box (.cells #[.int .i64 ((i:Nat):Int),.slice (some ⟨pa,0,none⟩) N pc,.int .i64 up.1,.int .u64 up.2,.int .u64 ((mk.s:Nat):Int),.int .u8 ((mk.c:Nat):Int)] 120)).box (.cells #[.int .u64 ((s.m.s:Nat):Int),.int .u8 ((s.m.c:Nat):Int),.string s.rest,.string s.val,.bool s.deep,.int .i64 s.link.1,.int .u64 s.link.2] 92)
 have q1:(w2.alloc (.cells #[.int .i64 ((i:Nat):Int),.slice (some ⟨pa,0,none⟩) N pc,.int .i64 up.1,.int .u64 up.2,.int .u64 ((mk.s:Nat):Int),.int .u8 ((mk.c:Nat):Int)] 120)).heap.size=w2.heap.size+1:=by simp
 rw [q1] at hS3
 clear q1
 generalize (w2.alloc (.cells #[.int .i64 ((i:Nat):Int),.slice (some ⟨pa,0,none⟩) N pc,.int .i64 up.1,.int .u64 up.2,.int .u64 ((mk.s:Nat):Int),.int .u8 ((mk.c:Nat):Int)] 120)).alloc (.cells #[.int .u64 ((s.m.s:Nat):Int),.int .u8 ((s.m.c:Nat):Int),.string s.rest,.string s.val,.bool s.deep,.int .i64 s.link.1,.int .u64 s.link.2] 92)=w3 at *
 obtain ⟨PB,hPB⟩:∃ b,b=w2.heap.size:=⟨_,rfl⟩
 obtain ⟨SB,hSB⟩:∃ b,b=w2.heap.size+1:=⟨_,rfl⟩
 rw [← hSB,← hPB] at hS3 ⊢
 replace hPB:=qh hPB
 replace hSB:=qh hSB
 replace hS3:=qh hS3
 obtain ⟨p,hp⟩:∃ p,p=N - 1:=⟨_,rfl⟩
 rw [← hp] at hpk
 have hw1:IntKind.i64.wrap ((N:Int) - 1)=(p:Int):=by rw [show ((N:Int) - 1)=(p:Int) by omega];exact IntWalk.i64_in _ (by omega)
 have hp1:p < N:=by omega
 have hp2:(p:Int) < (N:Int):=by omega
 replace hp:=qh hp
 have hSd:=hS3.out.drew
 refine wp_region_late [] (S:=fun W'=>W'.cell? ⟨T.t,1,none⟩=some (.pointer (some ⟨A,0,none⟩))∧W'.heap[PB]?=some (.cells #[.int .i64 ((i:Nat):Int),.slice (some ⟨pa,0,none⟩) N pc,.int .i64 up.1,.int .u64 up.2,.int .u64 ((mk.s:Nat):Int),.int .u8 ((mk.c:Nat):Int)] 120)∧W'.heap[pa]?=some po) rfl (⟨by rw [hAe.out];exact hSd.tree,hSd.nth 1 rfl,hSd.nth 2 rfl⟩) (fun hHeld=>?_)
 try dsimp only at hHeld
 refine tkW 0 ?_
 refine tkW 1 ?_
 refine tkW 2 ?_
 refine tkM 3 ?_ (hz:=by rintro w ⟨e1,e2,e3⟩;obtain ⟨d0,d1,d2,d3,d4,d5,d6,d7⟩:=box6 e2;obtain ⟨k0,k1,kl,_⟩:=hpk.out _ e3;exact zf)
 refine tkW 4 ?_
 refine tkM 5 ?_ (hz:=by rintro w ⟨e1,e2,e3⟩;obtain ⟨d0,d1,d2,d3,d4,d5,d6,d7⟩:=box6 e2;obtain ⟨k0,k1,kl,_⟩:=hpk.out _ e3;exact zf)
 refine tkW 6 ?_
 refine tkM 7 ?_ (hz:=by rintro w ⟨e1,e2,e3⟩;obtain ⟨d0,d1,d2,d3,d4,d5,d6,d7⟩:=box6 e2;obtain ⟨k0,k1,kl,_⟩:=hpk.out _ e3;exact zf)
 refine tkW 8 ?_
 refine tkW 9 ?_
 refine tkW 10 ?_
 refine tkM 11 ?_ (hz:=by rintro w ⟨e1,e2,e3⟩;obtain ⟨d0,d1,d2,d3,d4,d5,d6,d7⟩:=box6 e2;obtain ⟨k0,k1,kl,_⟩:=hpk.out _ e3;exact zf)
 refine rdM 12 ?_
 intro K hK
 go_simp
 go_at_call 62
 refine (hG.out _ _ hSd).mono ?_
 rintro z3 w4 ⟨rfl,hb⟩
 have hSe:=hSd.below hb
 clear hb
 have hS9y:w4.cell? ⟨T.t,1,none⟩=some (.pointer (some ⟨A,0,none⟩))∧w4.heap[PB]?=some (.cells #[.int .i64 ((i:Nat):Int),.slice (some ⟨pa,0,none⟩) N pc,.int .i64 up.1,.int .u64 up.2,.int .u64 ((mk.s:Nat):Int),.int .u8 ((mk.c:Nat):Int)] 120)∧w4.heap[pa]?=some po:=⟨by rw [hAe.out];exact hSe.tree,hSe.nth 1 rfl,hSe.nth 2 rfl⟩
 replace hSe:=qh hSe
 go_wp2_with fail
 refine hK.out _ _ (fun _ _=>hS9y) ?_
 clear hHeld hK K
 have hHeld:=hS9y
 clear hS9y
 try simp only [Act.put,zs1,zs2,zs3]
 try simp only [Act.put]
 refine tkW 13 ?_
 refine tkW 14 ?_
 refine tkW 15 ?_
 refine tkW 16 ?_
 refine tkW 17 ?_
 refine wpAnyM_done (by kernel_rfl) ?_ _
 try simp only [Exit.then]
 clear hHeld hSd hw1 hp1 hp2
 obtain ⟨d0,d1,d2,d3,d4,d5,d6,d7⟩:=box6 (hSe.out.nth 1 rfl)
 go_wp2_with fail
 refine (hSl.out _).mono ?_
 rintro z4 w5 ⟨rfl,hb⟩
 have hS5:=qh (hSe.out.below hb)
 clear hb d0 d1 d2 d3 d4 d5 d6 d7
 have hS6:=hS5.out.box (.cells #[.int .u64 ((m.s:Nat):Int),.int .u8 ((m.c:Nat):Int),.string rs,.string v,.bool false,.int .i64 0,.int .u64 0] 92)
 obtain ⟨MB,hMB⟩:∃ b,b=w5.heap.size:=⟨_,rfl⟩
 rw [← hMB] at hS6
 replace hMB:=qh hMB
 have hge6:=hS6
 obtain ⟨w6,hw6⟩:∃ W,W=w5.alloc (.cells #[.int .u64 ((m.s:Nat):Int),.int .u8 ((m.c:Nat):Int),.string rs,.string v,.bool false,.int .i64 0,.int .u64 0] 92):=⟨_,rfl⟩
 rw [← hw6] at hS6
 clear hge6
 replace hw6:=qh hw6
 replace hS6:=qh hS6
 cases is
 ·skip
  have hcn:M.cget C key=none:=by rw [hcg.out,if_neg (fun e=>by cases e.1)]
  obtain ⟨nd9,hnd9⟩:∃ n,n=needOf 0 l.Ls (mT (mkAt key i)):=⟨_,rfl⟩;have hndl:nd9≤15∧∃ l0,l0∈Y∧nd9≤l0.Ls.length+1:=by rw [hnd9];have h7:=need_le (Ls:=l.Ls) (key:=mT (mkAt key i)) (j:=0);have:=hN.out;exact ⟨by omega,l,hon.out.mem,h7⟩
  have hNe:Hid (∀ W L,MS w0 w T W T L→W.heap[pa]?=some po→Calls Tryz.prog 68 #[.pointer (some ⟨T.t,0,none⟩),.slice (some ⟨pa,0,none⟩) N pc] W fun e w'=>e=.returned (.int .i64 ((nd9:Nat):Int))∧Below W.heap.size W w'):=qh fun W L hS hp9=>by rw [hnd9];have hr9:=hrow.out W hp9;rw [hN.out] at hr9 ⊢;exact ((h.out.on hS.am).tr hk hpt).need hon.out.mem _ hr9
  obtain ⟨rm,hrm⟩:∃ b,b=decide (((nd9:Nat):Int)≤((T.free.count true:Nat):Int)):=⟨_,rfl⟩;have hRm:Hid (∀ W L,MS w0 w T W T L→Calls Tryz.prog 65 #[.pointer (some ⟨T.P.1,0,none⟩),.int .i64 ((nd9:Nat):Int)] W fun e w'=>e=.returned (.bool rm)∧Below W.heap.size W w'):=qh fun W L hS=>by rw [hrm];exact pRoom_any T.P.1 T.P.2.1 T.P.2.2 T.gens T.free _ W hS.am.bw.ars.pool.1
  replace hcn:=qh hcn;replace hnd9:=qh hnd9;replace hndl:=qh hndl;replace hrm:=qh hrm;obtain ⟨s0a,s1a,s2a,s3a,s4a,s5a,s6a,s7a⟩:=box7 (hS5.out.nth 0 rfl);go_upto_region 8 with fail;clear s0a s1a s2a s3a s4a s5a s6a s7a;rw [← hw6.out,← hMB.out];have hSd:=hS6.out.drew;refine wp_region_late [] (S:=fun W'=>W'.cell? ⟨T.t,0,none⟩=some (.pointer (some ⟨T.P.1,0,none⟩))∧W'.heap[PB]?=some (.cells #[.int .i64 ((i:Nat):Int),.slice (some ⟨pa,0,none⟩) N pc,.int .i64 up.1,.int .u64 up.2,.int .u64 ((mk.s:Nat):Int),.int .u8 ((mk.c:Nat):Int)] 120)) rfl (⟨hSd.pool,hSd.nth 2 rfl⟩) (fun hHeld=>?_)
  try dsimp only at hHeld
  refine tkW 0 ?_;refine tkW 1 ?_;refine tkW 2 ?_;refine tkM 3 ?_ (hz:=by rintro w ⟨e0,e1⟩;obtain ⟨d0,d1,d2,d3,d4,d5,d6,d7⟩:=box6 e1;exact zf);refine tkW 4 ?_;refine tkW 5 ?_;refine tkM 6 ?_ (hz:=by rintro w ⟨e0,e1⟩;obtain ⟨d0,d1,d2,d3,d4,d5,d6,d7⟩:=box6 e1;exact zf);refine rdM 7 ?_;intro K hK;go_simp;go_at_call 68;refine (hNe.out _ _ hSd (hSd.nth 3 rfl)).mono ?_;rintro z6 w7 ⟨rfl,hb⟩;have hS7:=hSd.below hb;clear hb;have hS9y:w7.cell? ⟨T.t,0,none⟩=some (.pointer (some ⟨T.P.1,0,none⟩))∧w7.heap[PB]?=some (.cells #[.int .i64 ((i:Nat):Int),.slice (some ⟨pa,0,none⟩) N pc,.int .i64 up.1,.int .u64 up.2,.int .u64 ((mk.s:Nat):Int),.int .u8 ((mk.c:Nat):Int)] 120):=⟨hS7.pool,hS7.nth 2 rfl⟩;replace hS7:=qh hS7;go_wp2_with fail;refine hK.out _ _ (fun _ _=>hS9y) ?_;clear hHeld hK K;have hHeld:=hS9y;clear hS9y
  try simp only [Act.put,zs1,zs2,zs3]
  try simp only [Act.put]
  refine rdM 8 ?_;intro K hK;go_simp;go_at_call 65;refine (hRm.out _ _ hS7.out).mono ?_;rintro z6 w8 ⟨rfl,hb⟩;have hS8:=hS7.out.below hb;clear hb;have hS9y:w8.cell? ⟨T.t,0,none⟩=some (.pointer (some ⟨T.P.1,0,none⟩))∧w8.heap[PB]?=some (.cells #[.int .i64 ((i:Nat):Int),.slice (some ⟨pa,0,none⟩) N pc,.int .i64 up.1,.int .u64 up.2,.int .u64 ((mk.s:Nat):Int),.int .u8 ((mk.c:Nat):Int)] 120):=⟨hS8.pool,hS8.nth 2 rfl⟩;replace hS8:=qh hS8;go_wp2_with fail;refine hK.out _ _ (fun _ _=>hS9y) ?_;clear hHeld hK K;have hHeld:=hS9y;clear hS9y
  try simp only [Act.put,zs1,zs2,zs3]
  try simp only [Act.put]
  refine tkW 9 ?_;refine wpAnyM_done (by kernel_rfl) ?_ _
  try simp only [Exit.then]
  clear hHeld hSd
  cases rm
  ·skip
   go_wp2_with fail;refine bodyPost_ret (v:=.tuple #[.string ⟨#[]⟩,.bool false,.int .i64 5]) (by simp [results,Tryz.results22,go_sem]) rfl ?_;exact .inr ⟨rfl,hcn.out,⟨nd9,by have h9:=hrm.out;simp at h9;omega,.inl hndl.out⟩,hS8.out.am,hS8.out.ev⟩
  ·skip
   have hfr:nd9≤T.free.count true:=by have h9:=hrm.out;simp at h9;omega
   have hPn:Hid (∀ W,Calls Tryz.prog 64 #[.agg cs.toArray,.agg #[.int .u64 ((m.s:Nat):Int),.int .u8 ((m.c:Nat):Int),.string rs,.string v,.bool false,.int .i64 0,.int .u64 0]] W fun e w'=>∃ (cl co:List Value) (g:LF),e=.returned (.tuple #[.agg cl.toArray,.agg co.toArray,.bool false])∧cl=lfc g∧LFOK g∧g.bn=f.bn.put (mT m) (slOf (keyAt key i) v)∧Below W.heap.size W w'):=qh fun W=>by
    have h9:=lfPut_any f hf.out (slOf (keyAt key i) v) (slOf_ok _ v) (by rw [hs9.out,← hm.out];rw [hm.out];exact hcov.out) (fun _=>by have:=hfn.out;omega) W;rw [hs9.out,← hm.out,← hcse.out] at h9;have hh:=hhas.out;rw [← hm.out] at hh;simp only [hh] at h9;refine h9.mono ?_;rintro e w' ⟨cl,co,g,o,rfl,a1,a2,a3,a4,a5,a6⟩;exact ⟨cl,co,g,rfl,a1,a3,by rw [a4,hs9.out,← hm.out],a6⟩
   go_upto_region 10 with fail;have hSd:=hS8.out.drew;refine wp_region_late [13] (S:=fun W'=>W'.heap[q]?=some (.cells (.int .u64 x1.2::.bool true::(cs++y)).toArray 192)∧W'.heap[MB]?=some (.cells #[.int .u64 ((m.s:Nat):Int),.int .u8 ((m.c:Nat):Int),.string rs,.string v,.bool false,.int .i64 0,.int .u64 0] 92)) rfl (⟨hAt.out _ _ hSd,hSd.nth 0 rfl⟩) (fun hHeld=>?_)
   try dsimp only at hHeld
   generalize w8.drew=w8d at *;refine tkW 0 ?_;refine tkW 1 ?_;refine tkW 2 ?_;refine tkW 3 ?_;refine ykM 4 ?_ (hy:=yieldsIf_load_mid (by rfl) 95 (.tmp 65) rfl q 2 (by rfl) cs _ (fun w hw=>range_mid hw.1 hcl.out) Tryz.underlying95 rfl (by rw [hcl.out];kernel_rfl));refine tkM 5 ?_ (hz:=by rintro w ⟨e1,e2⟩;obtain ⟨b0,b1,b2,b3,b4,b5,b6,b7⟩:=box7 e2;exact zf);refine rdM 6 ?_;intro K hK;go_simp;go_at_call 64;refine (hPn.out _).mono ?_;rintro z6 w9 ⟨cl,co,g,rfl,hcl2,hg,hgb,hb⟩;have hS9:=hSd.below hb;clear hb;have hS9y:w9.heap[q]?=some (.cells (.int .u64 x1.2::.bool true::(cs++y)).toArray 192)∧w9.heap[MB]?=some (.cells #[.int .u64 ((m.s:Nat):Int),.int .u8 ((m.c:Nat):Int),.string rs,.string v,.bool false,.int .i64 0,.int .u64 0] 92):=⟨hAt.out _ _ hS9,hS9.nth 0 rfl⟩;replace hS9:=qh hS9;replace hcl2:=qh hcl2;replace hg:=qh hg;replace hgb:=qh hgb;go_wp2_with fail;refine hK.out _ _ (fun _ _=>hS9y) ?_;clear hHeld hK K;have hHeld:=hS9y;clear hS9y
   try simp only [Act.put,zs1,zs2,zs3]
   try simp only [Act.put]
   refine tkW 7 ?_;refine tkW 8 ?_;refine tkW 9 ?_;refine tkW 10 ?_;refine tkW 11 ?_;refine tkW 12 ?_;refine rdM 13 ?_;intro K hK;rw [if_pos (by rfl)];have hc:=hAt.out _ _ hS9.out;have hlen:cl.length=111:=by rw [hcl2.out];exact lfc_len hg.out.S
   have th:=mn_there (o:=2) (n:=cl.toArray.size) hc (by simp [hcl.out,hylen.out,hlen]);refine wp_store_mid 95 (.tmp 73) (.tmp 69) rfl q 2 cl.toArray (by rfl) (by rfl) th (by rw [List.size_toArray,hlen];kernel_rfl) (by rw [hcl2.out];exact lfc_one g) ?_;have hst:=mn_set_leaf hc (vs:=cl) (by rw [hlen,hcl.out]);have hN8:NewND (w9.setCells q 2 cl) 0 (leafN g):=NewND.leaf hg.out;obtain ⟨T3,hS10,ev3,f3,n3,l3,r3,g3⟩:=hS9.out.store (x:=leafN g) hnF.out hq.out hN8 (fun b hb=>by cases hb) (hb_upd w9 q 2 cl) (by rw [show (leafN g).cs=.bool true::(lfc g++zic) from rfl,← hcl2.out,← hy.out];exact hst);clear hst th hc hN8;rw [show cl.toArray.toList=cl from rfl];generalize w9.setCells q 2 cl=w10 at *;replace hS10:=qh hS10;replace ev3:=qh ev3;replace f3:=qh f3;replace n3:=qh n3;replace l3:=qh l3;replace r3:=qh r3;replace g3:=qh g3;replace hlen:=qh hlen;refine hK.out _ _ (fun h=>by cases h) ?_;clear hK K
   try simp only [Act.put,zs1,zs2,zs3]
   try simp only [Act.put]
   refine wpAnyM_done (by kernel_rfl) ?_ _
   try simp only [Exit.then]
   clear hSd;obtain ⟨A1,B1,hSI,_⟩:=h.out.leafSI hon.out.mem hR.out hx.out (slOf (keyAt key i) v) hS10.out.am f3.out (by rw [hgb.out,hm.out]) n3.out l3.out r3.out g3.out (.inr (by rw [← hnd9.out];exact hfr))
   have hSe9:Hid (Calls Tryz.prog 69 #[.pointer (some ⟨T.t,0,none⟩),.agg #[.int .i64 ((i:Nat):Int),.slice (some ⟨pa,0,none⟩) N pc,.int .i64 up.1,.int .u64 up.2,.int .u64 ((mk.s:Nat):Int),.int .u8 ((mk.c:Nat):Int)]] w10 fun e w'=>e=.returned (.tuple #[])∧PutL w0 w T Y C k pt key v w'):=qh (by
    have hpr3:T3.ρ pa=0:=(hS10.out.own (pa,po) (by simp)).2.2;have h9:=MF.settle (i:=i) (up:=up) (mk:=mk) (pc:=pc) hSI (h.out.wy.wb.slim l hon.out.mem) (hS10.out.nth 3 rfl) hpr3 (fun W hW=>by rw [← hN.out];exact hrow.out W hW) (by rw [← hN.out];omega) (by omega) (fun hi0=>hup.out.upOK hMOK.out hi0);rw [hS10.out.ev.t,← hN.out] at h9;refine h9.mono ?_;rintro e w' ⟨rfl,hF⟩;refine ⟨rfl,SetF.put h.out hon.out hup.out (fun so hs7=>?_) (hF.base hS10.out.ev n3.out l3.out r3.out)⟩;have e1:M.cget (content l.Ls) (mT (mkAt key i))=some so:=hs7;rw [show M.cget (content l.Ls) (mT (mkAt key i))=none from (by first | exact hisf.out rfl | exact hisf.out trivial)] at e1
    cases e1)
   clear hSI;obtain ⟨d0,d1,d2,d3,d4,d5,d6,d7⟩:=box6 (hS10.out.nth 2 rfl);go_wp2_with fail;refine hSe9.out.mono ?_;clear d0 d1 d2 d3 d4 d5 d6 d7;rintro z7 w11 ⟨rfl,hP⟩;replace hP:=qh hP;replace hcn:=hcn.out;obtain ⟨T4,Y4,hfin,hA4,hE4,hEv4,hn4⟩:=hP.out.mtw h.out;have hwr:IntKind.i64.wrap (((T4.n:Nat):Int)+1)=((T4.n:Nat):Int)+1:=IntWalk.i64_in _ (by rw [hn4,h.out.n];omega);have hblk:w11.heap[T.t]?=some (.cells (treeC T4.P.1 T4.d.A.a T4.r T4.n T4.ly) 73):=by have:=hA4.blk;rw [hE4.t] at this;exact this
   have c4:w11.cell? ⟨T.t,4,none⟩=some (.int .i64 ((T4.n:Nat):Int)):=by rw [cell_of_heap hblk];rfl
   have cf:=frozen_of_heap hblk;have ctl:=heap_lt hblk;have hu9:Upd [T4.t] w11 (w11.setCell ⟨T.t,4,none⟩ (.int .i64 (((T4.n:Nat):Int)+1))):=(Upd.refl [T4.t] w11).setCell (p:=⟨T.t,4,none⟩) (by rw [hE4.t];simp) _;have hb9:(w11.setCell ⟨T.t,4,none⟩ (.int .i64 (((T4.n:Nat):Int)+1))).heap[T4.t]?=some (.cells (treeC T4.P.1 T4.d.A.a T4.r (T4.n+1) T4.ly) 73):=by rw [hE4.t,heap_set_same hblk 4 _];rfl
   obtain ⟨a9,ev9⟩:=hA4.own T4.r (T4.n+1) T4.ly hu9 hb9;have hfinal:Hid (PutE w0 w T Y C k pt key v (.returned (.tuple #[.string ⟨#[]⟩,.bool false,.int .i64 0])) (w11.setCell ⟨T.t,4,none⟩ (.int .i64 (((T4.n:Nat):Int)+1)))):=qh (.inl ⟨by rw [hcn];rfl,_,Y4,hfin _ _ a9 rfl rfl rfl ?_,hE4.trans ev9,hEv4⟩)
   rotate_left 1
   ·show T4.n+1=_
    rw [hn4,h.out.n,cput_len h.out.ct.srt,hcn];rfl
   clear hu9 hb9 a9 ev9 hblk hfin hA4 hE4 hEv4;replace hn4:=qh hn4;replace hcn:=qh hcn;go_wp2_with fail;refine bodyPost_ret (v:=.tuple #[.string ⟨#[]⟩,.bool false,.int .i64 0]) (by simp [results,Tryz.results22,go_sem]) rfl ?_;exact hfinal.out
 ·by_cases hrr:s.rest=rs
  ·skip
   have hrq:(s.rest.toList == rs.toList)=true:=by rw [hrr];simp
   have hgi:=hist.out rfl;obtain ⟨hsm,hsok⟩:=hso.out rfl;rw [← hm.out] at hsm
   have hPo:Hid (∀ W,Calls Tryz.prog 64 #[.agg cs.toArray,.agg #[.int .u64 ((m.s:Nat):Int),.int .u8 ((m.c:Nat):Int),.string rs,.string v,.bool false,.int .i64 0,.int .u64 0]] W fun e w'=>∃ (cl:List Value) (g:LF),e=.returned (.tuple #[.agg cl.toArray,.agg #[.int .u64 ((s.m.s:Nat):Int),.int .u8 ((s.m.c:Nat):Int),.string s.rest,.string s.val,.bool s.deep,.int .i64 s.link.1,.int .u64 s.link.2],.bool true])∧cl=lfc g∧LFOK g∧g.bn=f.bn.put (mT m) (slOf (keyAt key i) v)∧Below W.heap.size W w'):=qh fun W=>by
    have h9:=lfPut_any f hf.out (slOf (keyAt key i) v) (slOf_ok _ v) (by rw [hs9.out,← hm.out];rw [hm.out];exact hcov.out) (fun _=>by have:=hfn.out;omega) W;rw [hs9.out,← hm.out,← hcse.out] at h9;have hh:=hhas.out;rw [← hm.out] at hh;simp only [hh] at h9;refine h9.mono ?_;rintro e w' ⟨cl,co,g,o,rfl,a1,a2,a3,a4,a5,a6⟩;have ho:o=s:=by have e1:=hget.out;rw [← hm.out,hh,if_pos rfl,a5 trivial,hm.out,hgi.1] at e1;injection e1 with e1;exact e1.symm
    subst ho;exact ⟨cl,g,by rw [a2];rfl,a1,a3,by rw [a4,hs9.out,← hm.out],a6⟩
   have hgi2:=qh hgi;clear hgi;have hrr2:=qh hrr;clear hrr;replace hsm:=qh hsm;replace hsok:=qh hsok;obtain ⟨s0a,s1a,s2a,s3a,s4a,s5a,s6a,s7a⟩:=box7 (hS5.out.nth 0 rfl);go_upto_region 13 with fail;clear s0a s1a s2a s3a s4a s5a s6a s7a;rw [← hw6.out,← hMB.out];have hSd:=hS6.out.drew;refine wp_region_late [13,14] (S:=fun W'=>W'.heap[q]?=some (.cells (.int .u64 x1.2::.bool true::(cs++y)).toArray 192)∧W'.heap[MB]?=some (.cells #[.int .u64 ((m.s:Nat):Int),.int .u8 ((m.c:Nat):Int),.string rs,.string v,.bool false,.int .i64 0,.int .u64 0] 92)) rfl (⟨hAt.out _ _ hSd,hSd.nth 0 rfl⟩) (fun hHeld=>?_)
   try dsimp only at hHeld
   generalize w6.drew=w6d at *;refine tkW 0 ?_;refine tkW 1 ?_;refine tkW 2 ?_;refine tkW 3 ?_;refine ykM 4 ?_ (hy:=yieldsIf_load_mid (by rfl) 95 (.tmp 90) rfl q 2 (by rfl) cs _ (fun w hw=>range_mid hw.1 hcl.out) Tryz.underlying95 rfl (by rw [hcl.out];kernel_rfl));refine tkM 5 ?_ (hz:=by rintro w ⟨e1,e2⟩;obtain ⟨b0,b1,b2,b3,b4,b5,b6,b7⟩:=box7 e2;exact zf);refine rdM 6 ?_;intro K hK;go_simp;go_at_call 64;refine (hPo.out _).mono ?_;rintro z6 w7 ⟨cl,g,rfl,hcl2,hg,hgb,hb⟩;have hS7:=hSd.below hb;clear hb;have hS9y:w7.heap[q]?=some (.cells (.int .u64 x1.2::.bool true::(cs++y)).toArray 192)∧w7.heap[MB]?=some (.cells #[.int .u64 ((m.s:Nat):Int),.int .u8 ((m.c:Nat):Int),.string rs,.string v,.bool false,.int .i64 0,.int .u64 0] 92):=⟨hAt.out _ _ hS7,hS7.nth 0 rfl⟩;replace hS7:=qh hS7;replace hcl2:=qh hcl2;replace hg:=qh hg;replace hgb:=qh hgb;go_wp2_with fail;refine hK.out _ _ (fun _ _=>hS9y) ?_;clear hHeld hK K;have hHeld:=hS9y;clear hS9y
   try simp only [Act.put,zs1,zs2,zs3]
   try simp only [Act.put]
   refine tkW 7 ?_;refine tkW 8 ?_;refine tkW 9 ?_;refine tkW 10 ?_;refine tkW 11 ?_;refine tkW 12 ?_;refine rdM 13 ?_;intro K hK;rw [if_pos (by rfl)];have hc:=hAt.out _ _ hS7.out;have hlen:cl.length=111:=by rw [hcl2.out];exact lfc_len hg.out.S
   have th:=mn_there (o:=2) (n:=cl.toArray.size) hc (by simp [hcl.out,hylen.out,hlen]);refine wp_store_mid 95 (.tmp 98) (.tmp 94) rfl q 2 cl.toArray (by rfl) (by rfl) th (by rw [List.size_toArray,hlen];kernel_rfl) (by rw [hcl2.out];exact lfc_one g) ?_;have hst:=mn_set_leaf hc (vs:=cl) (by rw [hlen,hcl.out]);have hN8:NewND (w7.setCells q 2 cl) 0 (leafN g):=NewND.leaf hg.out;obtain ⟨T3,hS8,ev3,f3,n3,l3,r3,g3⟩:=hS7.out.store (x:=leafN g) hnF.out hq.out hN8 (fun b hb=>by cases hb) (hb_upd w7 q 2 cl) (by rw [show (leafN g).cs=.bool true::(lfc g++zic) from rfl,← hcl2.out,← hy.out];exact hst);clear hst th hc hN8;rw [show cl.toArray.toList=cl from rfl];generalize w7.setCells q 2 cl=w8 at *;replace hS8:=qh hS8;replace ev3:=qh ev3;replace f3:=qh f3;replace n3:=qh n3;replace l3:=qh l3;replace r3:=qh r3;replace g3:=qh g3;replace hlen:=qh hlen;refine hK.out _ _ (fun h=>by cases h) ?_;clear hK K
   try simp only [Act.put,zs1,zs2,zs3]
   try simp only [Act.put]
   refine rdM 14 ?_;intro K hK;rw [if_pos (by rfl)];have hSx:=hS8.out.rot [_] _ _;refine wp_store_mid 92 (.tmp 10) (.tmp 95) rfl SB 0 #[.int .u64 ((s.m.s:Nat):Int),.int .u8 ((s.m.c:Nat):Int),.string s.rest,.string s.val,.bool s.deep,.int .i64 s.link.1,.int .u64 s.link.2] (by rfl) (by rfl) (hb_thereA (hSx.nth 0 rfl) (by simp)) (by kernel_rfl) (all_oneCell_toArray (cs:=[.int .u64 ((s.m.s:Nat):Int),.int .u8 ((s.m.c:Nat):Int),.string s.rest,.string s.val,.bool s.deep,.int .i64 s.link.1,.int .u64 s.link.2]) (by intro v hv;simp only [List.mem_cons,List.not_mem_nil,or_false] at hv;rcases hv with rfl | rfl | rfl | rfl | rfl | rfl | rfl <;> rfl)) ?_;have hS9:=hSx.setV [.int .u64 ((s.m.s:Nat):Int),.int .u8 ((s.m.c:Nat):Int),.string s.rest,.string s.val,.bool s.deep,.int .i64 s.link.1,.int .u64 s.link.2] (by simp);rw [show (#[.int .u64 ((s.m.s:Nat):Int),.int .u8 ((s.m.c:Nat):Int),.string s.rest,.string s.val,.bool s.deep,.int .i64 s.link.1,.int .u64 s.link.2]:Array Value).toList=[.int .u64 ((s.m.s:Nat):Int),.int .u8 ((s.m.c:Nat):Int),.string s.rest,.string s.val,.bool s.deep,.int .i64 s.link.1,.int .u64 s.link.2] from rfl];generalize w8.setCells SB 0 [.int .u64 ((s.m.s:Nat):Int),.int .u8 ((s.m.c:Nat):Int),.string s.rest,.string s.val,.bool s.deep,.int .i64 s.link.1,.int .u64 s.link.2]=w9 at *;clear hSx;replace hS9:=qh hS9;refine hK.out _ _ (fun h=>by cases h) ?_;clear hK K
   try simp only [Act.put,zs1,zs2,zs3]
   try simp only [Act.put]
   refine wpAnyM_done (by kernel_rfl) ?_ _
   try simp only [Exit.then]
   clear hSd;obtain ⟨s0a,s1a,s2a,s3a,s4a,s5a,s6a,s7a⟩:=box7 (hS9.out.nth 0 rfl);go_wp2_with fail;refine bodyPost_ret (v:=.tuple #[.string s.val,.bool true,.int .i64 0]) (by simp [results,Tryz.results22,go_sem]) rfl ?_;have hgi:=hgi2.out;have hrr:=hrr2.out;have hkm:=hhas.out;have hRx:=hx.out
   have hP:PutL w0 w T Y C k pt key v w9:=by
    obtain ⟨A1,B1,_,hSI⟩:=h.out.leafSI hon.out.mem hR.out hRx (slOf (keyAt key i) v) hS9.out.am f3.out (by rw [hgb.out,hm.out]) n3.out l3.out r3.out g3.out (.inl hkm);refine SetF.put h.out hon.out hup.out (fun so hs7=>?_) (SI.old h.out hon.out.mem hR.out hRx hkm hSI hS9.out.ev);have e1:M.cget (content l.Ls) (mT (mkAt key i))=some so:=hs7;rw [hgi.1] at e1;injection e1 with e1;subst e1;exact ⟨hgi.2,by rw [hs9.out];exact hrr⟩
   have hcc:=hcg.out;rw [if_pos ⟨by first | rfl | trivial,hrr⟩] at hcc;obtain ⟨T4,Y4,hfin,hA4,hE4,hEv4,hn4⟩:=hP.mtw h.out;refine .inl ⟨by rw [hcc];rfl,T4,Y4,hfin _ _ hA4 rfl rfl rfl ?_,hE4,hEv4⟩;rw [hn4,h.out.n,cput_len h.out.ct.srt,hcc];rfl
  ·skip
   have hrq:(s.rest.toList == rs.toList)=false:=by have:¬ s.rest.toList=rs.toList:=fun e=>hrr (toList_inj e);simpa using this
   obtain ⟨hsm,hsok⟩:=hso.out rfl;obtain ⟨hg9,hd9⟩:=hist.out rfl;have hne9:bl s.rest≠keyAt key (i+1):=fun e=>hrr (by rw [hrs.out,← e,bs_bl])
   obtain ⟨_,c9,c3,c4,_,_⟩:=clash hMOK.out hon.out hg9 hd9 hne9;have hcn:M.cget C key=none:=by rw [hcg.out,if_neg (fun e=>hrr e.2)]
   have hrb:bl rs=keyAt key (i+1):=by rw [hrs.out,bl_bs]
   have hsz1:s.rest.size≤100000000:=by have h9:=h.out.wy.wb.rst l hon.out.mem _ ((hMOK.out.cget hon.out.mem).1 hg9);have e:(bl s.rest).length=s.rest.size:=rfl;simp only at h9;omega
   have hsz2:rs.size≤100000000:=by have e:(bl rs).length=rs.size:=rfl;have:=keyAt_len key (i+1);rw [hrb] at e;omega
   obtain ⟨a,ha⟩:∃ a,a=alk (bl s.rest) (bl rs):=⟨_,rfl⟩;have hal9:=alk_lt _ _ _ (Nat.le_refl _) c3 c4;rw [← hrb,← ha] at hal9;have hasz:a≤100000000:=by have e:(bl s.rest).length=s.rest.size:=rfl;omega
   have hAk:=qh fun W=>mtAlike_any s.rest rs hsz1 hsz2 W
   rw [← ha] at hAk;have hwa:IntKind.i64.wrap (1+((a:Nat):Int))=((1+a:Nat):Int):=by rw [show 1+((a:Nat):Int)=((1+a:Nat):Int) by omega];exact IntWalk.i64_in _ (by omega)
   obtain ⟨rm,hrm⟩:∃ b,b=decide (((1+a:Nat):Int)≤((T.free.count true:Nat):Int)):=⟨_,rfl⟩;have hRm:Hid (∀ W L,MS w0 w T W T L→Calls Tryz.prog 65 #[.pointer (some ⟨T.P.1,0,none⟩),.int .i64 ((1+a:Nat):Int)] W fun e w'=>e=.returned (.bool rm)∧Below W.heap.size W w'):=qh fun W L hS=>by rw [hrm];exact pRoom_any T.P.1 T.P.2.1 T.P.2.2 T.gens T.free _ W hS.am.bw.ars.pool.1
   replace hsm:=qh hsm;replace hsok:=qh hsok;replace hg9:=qh hg9;replace hd9:=qh hd9;replace hne9:=qh hne9;replace c9:=qh c9;replace c3:=qh c3;replace c4:=qh c4;replace hcn:=qh hcn;replace hrb:=qh hrb;replace ha:=qh ha;replace hal9:=qh hal9;replace hrm:=qh hrm;replace hsz1:=qh hsz1;replace hsz2:=qh hsz2;obtain ⟨s0a,s1a,s2a,s3a,s4a,s5a,s6a,s7a⟩:=box7 (hS5.out.nth 0 rfl);go_upto_region 16 with fail;clear s0a s1a s2a s3a s4a s5a s6a s7a;rw [← hw6.out,← hMB.out];have hSd:=hS6.out.drew;refine wp_region_late [] (S:=fun W'=>W'.cell? ⟨T.t,0,none⟩=some (.pointer (some ⟨T.P.1,0,none⟩))∧W'.heap[SB]?=some (.cells #[.int .u64 ((s.m.s:Nat):Int),.int .u8 ((s.m.c:Nat):Int),.string s.rest,.string s.val,.bool s.deep,.int .i64 s.link.1,.int .u64 s.link.2] 92)∧W'.heap[MB]?=some (.cells #[.int .u64 ((m.s:Nat):Int),.int .u8 ((m.c:Nat):Int),.string rs,.string v,.bool false,.int .i64 0,.int .u64 0] 92)) rfl (⟨hSd.pool,hSd.nth 1 rfl,hSd.nth 0 rfl⟩) (fun hHeld=>?_)
   try dsimp only at hHeld
   refine tkW 0 ?_;refine tkW 1 ?_;refine tkW 2 ?_;refine tkM 3 ?_ (hz:=by rintro w ⟨e0,e1,e2⟩;obtain ⟨a0,a1,a2,a3,a4,a5,a6,a7⟩:=box7 e1;obtain ⟨b0,b1,b2,b3,b4,b5,b6,b7⟩:=box7 e2;exact zf);refine tkW 4 ?_;refine tkM 5 ?_ (hz:=by rintro w ⟨e0,e1,e2⟩;obtain ⟨a0,a1,a2,a3,a4,a5,a6,a7⟩:=box7 e1;obtain ⟨b0,b1,b2,b3,b4,b5,b6,b7⟩:=box7 e2;exact zf);refine tkW 6 ?_;refine tkM 7 ?_ (hz:=by rintro w ⟨e0,e1,e2⟩;obtain ⟨a0,a1,a2,a3,a4,a5,a6,a7⟩:=box7 e1;obtain ⟨b0,b1,b2,b3,b4,b5,b6,b7⟩:=box7 e2;exact zf);refine rdM 8 ?_;intro K hK;go_simp;go_at_call 66;refine (hAk.out _).mono ?_;rintro z6 w7 ⟨rfl,hb⟩;have hS7:=hSd.below hb;clear hb;have hS9y:w7.cell? ⟨T.t,0,none⟩=some (.pointer (some ⟨T.P.1,0,none⟩))∧w7.heap[SB]?=some (.cells #[.int .u64 ((s.m.s:Nat):Int),.int .u8 ((s.m.c:Nat):Int),.string s.rest,.string s.val,.bool s.deep,.int .i64 s.link.1,.int .u64 s.link.2] 92)∧w7.heap[MB]?=some (.cells #[.int .u64 ((m.s:Nat):Int),.int .u8 ((m.c:Nat):Int),.string rs,.string v,.bool false,.int .i64 0,.int .u64 0] 92):=⟨hS7.pool,hS7.nth 1 rfl,hS7.nth 0 rfl⟩;replace hS7:=qh hS7;go_wp2_with fail;refine hK.out _ _ (fun _ _=>hS9y) ?_;clear hHeld hK K;have hHeld:=hS9y;clear hS9y
   try simp only [Act.put,zs1,zs2,zs3]
   try simp only [Act.put]
   refine tkW 9 ?_;refine rdM 10 ?_;intro K hK;go_simp;go_at_call 65;refine (hRm.out _ _ hS7.out).mono ?_;rintro z6 w8 ⟨rfl,hb⟩;have hS8:=hS7.out.below hb;clear hb;have hS9y:w8.cell? ⟨T.t,0,none⟩=some (.pointer (some ⟨T.P.1,0,none⟩))∧w8.heap[SB]?=some (.cells #[.int .u64 ((s.m.s:Nat):Int),.int .u8 ((s.m.c:Nat):Int),.string s.rest,.string s.val,.bool s.deep,.int .i64 s.link.1,.int .u64 s.link.2] 92)∧w8.heap[MB]?=some (.cells #[.int .u64 ((m.s:Nat):Int),.int .u8 ((m.c:Nat):Int),.string rs,.string v,.bool false,.int .i64 0,.int .u64 0] 92):=⟨hS8.pool,hS8.nth 1 rfl,hS8.nth 0 rfl⟩;replace hS8:=qh hS8;go_wp2_with fail;refine hK.out _ _ (fun _ _=>hS9y) ?_;clear hHeld hK K;have hHeld:=hS9y;clear hS9y
   try simp only [Act.put,zs1,zs2,zs3]
   try simp only [Act.put]
   refine tkW 11 ?_;refine wpAnyM_done (by kernel_rfl) ?_ _
   try simp only [Exit.then]
   clear hHeld hSd
   cases rm
   ·skip
    go_wp2_with fail;refine bodyPost_ret (v:=.tuple #[.string ⟨#[]⟩,.bool false,.int .i64 5]) (by simp [results,Tryz.results22,go_sem]) rfl ?_;exact .inr ⟨rfl,hcn.out,h.out.fullD hon.out hg9.out hd9.out hne9.out (by have h9:=hrm.out;have h8:=ha.out;rw [hrb.out] at h8;rw [← h8];simp at h9;omega),hS8.out.am,hS8.out.ev⟩
   ·skip
    have hfr:a+1≤T.free.count true:=by have h9:=hrm.out;simp at h9;omega
    have hBo:Hid (∀ W L,MS w0 w T W T L→Calls Tryz.prog 67 #[.pointer (some ⟨T.t,0,none⟩),.string s.rest,.string s.val,.string rs,.string v] W fun e w'=>∃ (h2:Hd) (hs2:List Hd) (T2:TS) (N:NF),e=.returned (.agg #[.int .i64 h2.1,.int .u64 h2.2])∧hs2.length=a∧MS w0 w T w' T2 L∧TEv W w' T T2∧T2.F=T.F++N∧(∀ p,(N.map fun z=>(z.1,z.2.bn))=flat (bothN p (bl s.rest) (bl rs) s.val v (h2::hs2)))∧(∀ z,z∈N→(∃ f,z.2.k=.leaf f)∨∃ b,z.2.k=.inn b)∧T2.ly=T.ly+(a+1)∧T2.n=T.n∧T2.r=T.r):=qh fun W L hS=>by
     refine (AM.both a s.rest rs s.val v W T ha.out.symm hS.am hsz1.out hsz2.out (by rw [hrb.out];exact hne9.out) c3.out (by rw [hrb.out];exact c4.out) hfr (by rw [h.out.ly];have:=h.out.yl;omega)).mono ?_;rintro e w' ⟨h2,hs2,T2,N,rfl,a1,a2,a3,a4,a5,a6,a7,a8,a9,_⟩;exact ⟨h2,hs2,T2,N,rfl,a1,hS.call a2 a3,a3,a4,a5,a6,a7,a8,a9⟩
    have hPd:Hid (∀ (h2:Hd) W,Calls Tryz.prog 64 #[.agg cs.toArray,.agg #[.int .u64 ((m.s:Nat):Int),.int .u8 ((m.c:Nat):Int),.string ⟨#[]⟩,.string ⟨#[]⟩,.bool true,.int .i64 h2.1,.int .u64 h2.2]] W fun e w'=>∃ (cl co:List Value) (g:LF),e=.returned (.tuple #[.agg cl.toArray,.agg co.toArray,.bool true])∧cl=lfc g∧LFOK g∧g.bn=f.bn.put (mT m) ⟨m,s0,s0,true,h2⟩∧Below W.heap.size W w'):=qh fun h2 W=>by
     have h9:=lfPut_any f hf.out ⟨m,s0,s0,true,h2⟩ ⟨by rw [hm.out];exact hmk.out,fun _=>⟨by show m.c=9;rw [hm.out,← hsm.out];exact c9.out,rfl,rfl⟩,fun e=>(by cases e)⟩ (by show f.cov m=true;rw [hm.out];exact hcov.out) (fun _=>by have:=hfn.out;omega) W;have hh:=hhas.out;rw [← hm.out] at hh;simp only [hh] at h9;rw [← hcse.out] at h9;refine h9.mono ?_;rintro e w' ⟨cl,co,g,o,rfl,a1,a2,a3,a4,a5,a6⟩;exact ⟨cl,co,g,rfl,a1,a3,a4,a6⟩
    go_upto_region 18 with fail;have hSd:=hS8.out.drew;refine wp_region_late [24] (S:=fun W'=>W'.heap[q]?=some (.cells (.int .u64 x1.2::.bool true::(cs++y)).toArray 192)∧W'.heap[SB]?=some (.cells #[.int .u64 ((s.m.s:Nat):Int),.int .u8 ((s.m.c:Nat):Int),.string s.rest,.string s.val,.bool s.deep,.int .i64 s.link.1,.int .u64 s.link.2] 92)∧W'.heap[MB]?=some (.cells #[.int .u64 ((m.s:Nat):Int),.int .u8 ((m.c:Nat):Int),.string rs,.string v,.bool false,.int .i64 0,.int .u64 0] 92)) rfl (⟨hAt.out _ _ hSd,hSd.nth 1 rfl,hSd.nth 0 rfl⟩) (fun hHeld=>?_)
    try dsimp only at hHeld
    refine tkW 0 ?_;refine tkW 1 ?_;refine tkW 2 ?_;refine tkW 3 ?_;refine ykM 4 ?_ (hy:=yieldsIf_load_mid (by rfl) 95 (.tmp 119) rfl q 2 (by rfl) cs _ (fun w hw=>range_mid hw.1 hcl.out) Tryz.underlying95 rfl (by rw [hcl.out];kernel_rfl));refine tkW 5 ?_;refine tkM 6 ?_ (hz:=by rintro w ⟨e0,e1,e2⟩;obtain ⟨a0,a1,a2,a3,a4,a5,a6,a7⟩:=box7 e1;obtain ⟨b0,b1,b2,b3,b4,b5,b6,b7⟩:=box7 e2;exact zf);refine tkW 7 ?_;refine tkW 8 ?_;refine tkM 9 ?_ (hz:=by rintro w ⟨e0,e1,e2⟩;obtain ⟨a0,a1,a2,a3,a4,a5,a6,a7⟩:=box7 e1;obtain ⟨b0,b1,b2,b3,b4,b5,b6,b7⟩:=box7 e2;exact zf);refine tkW 10 ?_;refine tkM 11 ?_ (hz:=by rintro w ⟨e0,e1,e2⟩;obtain ⟨a0,a1,a2,a3,a4,a5,a6,a7⟩:=box7 e1;obtain ⟨b0,b1,b2,b3,b4,b5,b6,b7⟩:=box7 e2;exact zf);refine tkW 12 ?_;refine tkM 13 ?_ (hz:=by rintro w ⟨e0,e1,e2⟩;obtain ⟨a0,a1,a2,a3,a4,a5,a6,a7⟩:=box7 e1;obtain ⟨b0,b1,b2,b3,b4,b5,b6,b7⟩:=box7 e2;exact zf);refine tkW 14 ?_;refine rdM 15 ?_;intro K hK;go_simp;go_at_call 67;refine (hBo.out _ _ hSd).mono ?_;rintro z6 w9 ⟨h2,hs2,T2,N2,rfl,hl2,hS9,ev2,f2,hN2,hkN,l2,n2,r2⟩;have hq2:=hq.out.ev ev2;have hm2:(x1,nd)∈T2.F:=by rw [f2];exact List.mem_append_left _ hnF.out
    have hAt2:Hid (∀ W L,MS w0 w T W T2 L→W.heap[q]?=some (.cells (.int .u64 x1.2::.bool true::(cs++y)).toArray 192)):=qh fun W L hS=>by have:=hS.am.at hm2 hq2;rw [hcs.out,← hcse.out,← hy.out] at this;exact this
    have hS9y:w9.heap[q]?=some (.cells (.int .u64 x1.2::.bool true::(cs++y)).toArray 192)∧w9.heap[SB]?=some (.cells #[.int .u64 ((s.m.s:Nat):Int),.int .u8 ((s.m.c:Nat):Int),.string s.rest,.string s.val,.bool s.deep,.int .i64 s.link.1,.int .u64 s.link.2] 92)∧w9.heap[MB]?=some (.cells #[.int .u64 ((m.s:Nat):Int),.int .u8 ((m.c:Nat):Int),.string rs,.string v,.bool false,.int .i64 0,.int .u64 0] 92):=⟨hAt2.out _ _ hS9,hS9.nth 1 rfl,hS9.nth 0 rfl⟩;replace hS9:=qh hS9;replace ev2:=qh ev2;replace f2:=qh f2;replace hN2:=qh hN2;replace hkN:=qh hkN;replace l2:=qh l2;replace n2:=qh n2;replace r2:=qh r2;replace hq2:=qh hq2;replace hm2:=qh hm2;replace hl2:=qh hl2;go_wp2_with fail;refine hK.out _ _ (fun _ _=>hS9y) ?_;clear hHeld hK K;have hHeld:=hS9y;clear hS9y
    try simp only [Act.put,zs1,zs2,zs3]
    try simp only [Act.put]
    refine tkW 16 ?_;refine rdM 17 ?_;intro K hK;go_simp;go_at_call 64;refine (hPd.out h2 _).mono ?_;rintro z6 w10 ⟨cl,co,g,rfl,hcl2,hg,hgb,hb⟩;have hS10:=hS9.out.below hb;clear hb;have hS9y:w10.heap[q]?=some (.cells (.int .u64 x1.2::.bool true::(cs++y)).toArray 192)∧w10.heap[SB]?=some (.cells #[.int .u64 ((s.m.s:Nat):Int),.int .u8 ((s.m.c:Nat):Int),.string s.rest,.string s.val,.bool s.deep,.int .i64 s.link.1,.int .u64 s.link.2] 92)∧w10.heap[MB]?=some (.cells #[.int .u64 ((m.s:Nat):Int),.int .u8 ((m.c:Nat):Int),.string rs,.string v,.bool false,.int .i64 0,.int .u64 0] 92):=⟨hAt2.out _ _ hS10,hS10.nth 1 rfl,hS10.nth 0 rfl⟩;replace hS10:=qh hS10;replace hcl2:=qh hcl2;replace hg:=qh hg;replace hgb:=qh hgb;go_wp2_with fail;refine hK.out _ _ (fun _ _=>hS9y) ?_;clear hHeld hK K;have hHeld:=hS9y;clear hS9y
    try simp only [Act.put,zs1,zs2,zs3]
    try simp only [Act.put]
    refine tkW 18 ?_;refine tkW 19 ?_;refine tkW 20 ?_;refine tkW 21 ?_;refine tkW 22 ?_;refine tkW 23 ?_;refine rdM 24 ?_;intro K hK;rw [if_pos (by rfl)];have hc:=hAt2.out _ _ hS10.out;have hlen:cl.length=111:=by rw [hcl2.out];exact lfc_len hg.out.S
    have th:=mn_there (o:=2) (n:=cl.toArray.size) hc (by simp [hcl.out,hylen.out,hlen]);refine wp_store_mid 95 (.tmp 138) (.tmp 134) rfl q 2 cl.toArray (by rfl) (by rfl) th (by rw [List.size_toArray,hlen];kernel_rfl) (by rw [hcl2.out];exact lfc_one g) ?_;have hst:=mn_set_leaf hc (vs:=cl) (by rw [hlen,hcl.out]);have hN8:NewND (w10.setCells q 2 cl) 0 (leafN g):=NewND.leaf hg.out;obtain ⟨T3,hS11,ev3,f3,n3,l3,r3,g3⟩:=hS10.out.store (x:=leafN g) hm2.out hq2.out hN8 (fun b hb=>by cases hb) (hb_upd w10 q 2 cl) (by rw [show (leafN g).cs=.bool true::(lfc g++zic) from rfl,← hcl2.out,← hy.out];exact hst);clear hst th hc hN8;rw [show cl.toArray.toList=cl from rfl];generalize w10.setCells q 2 cl=w11 at *;replace hS11:=qh hS11;replace ev3:=qh ev3;replace f3:=qh f3;replace n3:=qh n3;replace l3:=qh l3;replace r3:=qh r3;replace g3:=qh g3;replace hlen:=qh hlen;refine hK.out _ _ (fun h=>by cases h) ?_;clear hK K
    try simp only [Act.put,zs1,zs2,zs3]
    try simp only [Act.put]
    refine wpAnyM_done (by kernel_rfl) ?_ _
    try simp only [Exit.then]
    clear hSd;have hP:PutL w0 w T Y C k pt key v w11:=h.out.deepL hon.out hg9.out hd9.out hne9.out hR.out (by rw [hsm.out];exact hx.out) (by rw [hsm.out];exact hhas.out) (by rw [hl2.out,ha.out,hrb.out]) f2.out (by rw [← hrb.out];exact hN2.out) hkN.out hS9.out.am hS11.out.am f3.out (by rw [hgb.out,hsm.out,hm.out]) (n3.out.trans n2.out) (by rw [l3.out,l2.out,hl2.out]) (r3.out.trans r2.out) hS11.out.ev;replace hP:=qh hP;replace hcn:=hcn.out;obtain ⟨T4,Y4,hfin,hA4,hE4,hEv4,hn4⟩:=hP.out.mtw h.out;have hwr:IntKind.i64.wrap (((T4.n:Nat):Int)+1)=((T4.n:Nat):Int)+1:=IntWalk.i64_in _ (by rw [hn4,h.out.n];omega);have hblk:w11.heap[T.t]?=some (.cells (treeC T4.P.1 T4.d.A.a T4.r T4.n T4.ly) 73):=by have:=hA4.blk;rw [hE4.t] at this;exact this
    have c4:w11.cell? ⟨T.t,4,none⟩=some (.int .i64 ((T4.n:Nat):Int)):=by rw [cell_of_heap hblk];rfl
    have cf:=frozen_of_heap hblk;have ctl:=heap_lt hblk;have hu9:Upd [T4.t] w11 (w11.setCell ⟨T.t,4,none⟩ (.int .i64 (((T4.n:Nat):Int)+1))):=(Upd.refl [T4.t] w11).setCell (p:=⟨T.t,4,none⟩) (by rw [hE4.t];simp) _;have hb9:(w11.setCell ⟨T.t,4,none⟩ (.int .i64 (((T4.n:Nat):Int)+1))).heap[T4.t]?=some (.cells (treeC T4.P.1 T4.d.A.a T4.r (T4.n+1) T4.ly) 73):=by rw [hE4.t,heap_set_same hblk 4 _];rfl
    obtain ⟨a9,ev9⟩:=hA4.own T4.r (T4.n+1) T4.ly hu9 hb9;have hfinal:Hid (PutE w0 w T Y C k pt key v (.returned (.tuple #[.string ⟨#[]⟩,.bool false,.int .i64 0])) (w11.setCell ⟨T.t,4,none⟩ (.int .i64 (((T4.n:Nat):Int)+1)))):=qh (.inl ⟨by rw [hcn];rfl,_,Y4,hfin _ _ a9 rfl rfl rfl ?_,hE4.trans ev9,hEv4⟩)
    rotate_left 1
    ·show T4.n+1=_
     rw [hn4,h.out.n,cput_len h.out.ct.srt,hcn];rfl
    clear hu9 hb9 a9 ev9 hblk hfin hA4 hE4 hEv4;replace hn4:=qh hn4;replace hcn:=qh hcn;go_wp2_with fail;refine bodyPost_ret (v:=.tuple #[.string ⟨#[]⟩,.bool false,.int .i64 0]) (by simp [results,Tryz.results22,go_sem]) rfl ?_;exact hfinal.out
open Go.RowKit
section
variable {w0 w w' w1:World} {ρ:Nat→Nat} {P:Nat×Nat×Nat} {gens:List Int} {free:List Bool} {D:List ArD} {T T1:TS}
def T00 (ρ:Nat→Nat) (P:Nat×Nat×Nat) (gens:List Int) (free:List Bool) (D:List ArD) (a m t:Nat):TS :=
 ⟨ρ,P,gens,free,D++[⟨162,192,⟨a,m,[],0⟩⟩],D.length,t,⟨162,192,⟨a,m,[],0⟩⟩,(0,0),0,0,[]⟩
theorem am_start {a m : Nat} (hB : BW w0 w ρ P gens free (D ++ [⟨162, 192, ⟨a, m, [], 0⟩⟩])) (hcnt : free.count true + (D.map fun d => d.A.L.length).sum = free.length) :
    AM w0 (w.alloc (.cells (treeC P.1 a (0,0) 0 0) 73)) (T00 (mark ρ w.heap.size 4) P gens free D a m w.heap.size)∧RU [] w (w.alloc (.cells (treeC P.1 a (0,0) 0 0) 73)) ρ (mark ρ w.heap.size 4):=by
 have hb:=(Below.refl w.heap.size w).alloc (Nat.le_refl _) (.cells (treeC P.1 a (0,0) 0 0) 73)
 have hU:=(RU.below (rs:=[]) hB.ro hb).mark (b:=w.heap.size) (r:=4) (Nat.le_refl _) (heap_lt (heap_alloc_new _ _))
 refine ⟨⟨hB.ru hU (by simp),by simp [T00],rfl,rfl,mark_self,heap_alloc_new _ _,fun x hx=>by simp [T00] at hx,fun x hx=>by simp [T00] at hx,List.nodup_nil,rfl,fun j d' e e' _ _ _ he'=>by simp [T00] at he',?_⟩,hU⟩
 simp only [T00,List.map_append,List.sum_append]
 simpa using hcnt
def ly0 (g:Hd):Ly:=⟨[],[[(g,lf0)]],g⟩
theorem wy0 (g:Hd):WY [ly0 g] 1 0∧MCt [ly0 g] []:=by
 obtain ⟨t1,t2⟩:=one_tower (h:=g) lf0_ok rfl rfl rfl
 have hc:content (ly0 g).Ls=[]:=t2
 have hm:∀ l,l∈[ly0 g]→l=ly0 g:=fun l hl=>List.mem_singleton.1 hl
 refine ⟨⟨⟨fun l hl=>?_,fun l hl x hx=>?_,by simp,⟨_,_,rfl,rfl⟩,fun l hl x hx=>?_,fun l hl hne=>?_,fun l hl hne=>?_⟩,⟨fun l hl=>?_,fun l hl=>?_,fun l hl=>?_,fun l hl=>?_,fun l hl x hx=>?_,?_,?_⟩⟩,⟨List.Pairwise.nil,fun k v=>⟨fun h=>(by cases h),?_⟩⟩⟩
 ·rw [hm l hl];exact t1
 ·rw [hm l hl,hc] at hx;cases hx
 ·rw [hm l hl,hc] at hx;cases hx
 ·rw [hm l hl] at hne;exact absurd rfl hne
 ·rw [hm l hl] at hne;exact absurd rfl hne
 ·rw [hm l hl]
  intro i R hR x hx
  cases i with
  | zero =>
   have:R=[(g,lf0)]:=by simpa [ly0] using hR.symm
   subst this;rw [List.mem_singleton.1 hx];exact Nat.zero_le _
  | succ i=>simp [ly0] at hR
 ·rw [hm l hl]
  intro i R hR hi;rw [show (ly0 g).Ls=[[(g,lf0)]] from rfl,List.getElem?_eq_none (by simp;omega)] at hR
  cases hR
 ·rw [hm l hl];exact ⟨lf0,rfl⟩
 ·rw [hm l hl];exact Nat.le_refl _
 ·rw [hm l hl,hc] at hx;cases hx
 ·exact Nat.le_refl _
 ·show 16*0+(ptL (ly0 g)+0)≤0
  unfold ptL;rw [hc];exact Nat.le_refl _
 ·rintro ⟨l,hl,x,hx,_⟩
  rw [hm l hl,hc] at hx
  cases hx
theorem MTw.one {g:Hd} (hA:AM w0 w T) (hF:T.F=[(g,newN)]) (hr:T.r=g) (hn:T.n=0) (hly:T.ly=1):MTw w0 w T [ly0 g] [] 0 0:=by
 obtain ⟨a,b⟩:=wy0 g
 refine ⟨⟨hA,?_,fun x hx=>?_⟩,a,b,⟨_,_,rfl,hr.symm⟩,hly,hn⟩
 ·rw [hF]
  exact List.Perm.refl _
 ·rw [hF] at hx
  rw [List.mem_singleton.1 hx];exact .inl ⟨newLF,rfl⟩
def NewS (w0 w:World) (ρ:Nat→Nat) (P:Nat×Nat×Nat) (free:List Bool) (D:List ArD) (e:Ending) (w':World):Prop :=
 ∃ T g,e=.returned (.tuple #[.pointer (some ⟨T.t,0,none⟩),.int .i64 0])∧MTw w0 w' T [ly0 g] [] 0 0∧T.P=P∧T.i=D.length∧T.free.count true+1=free.count true∧T.free.length=free.length ∧
  RU [1,2,3,4,10+3*D.length,12+3*D.length] w w' ρ T.ρ∧T.D.length=D.length+1∧∀ j,j < D.length→T.D[j]?=D[j]?
set_option maxRecDepth 100000 in
set_option maxHeartbeats 4000000 in
theorem mtNew_some (hB : BW w0 w ρ P gens free D) (hfr : true ∈ free) (hcnt : free.count true + (D.map fun d => d.A.L.length).sum = free.length) :
    Calls Tryz.prog 12 #[.pointer (some ⟨P.1,0,none⟩)] w (NewS w0 w ρ P free D):=by
 have hN:=AMnode.gNew (some ⟨P.1,0,none⟩) [] w
 replace hN:=qh hN
 go_enter Tryz.func12,Tryz.ntmps12
 go_wp2_with fail
 refine hN.out.mono ?_
 clear hN
 rintro e w1 ⟨rfl,hb1,hs1,hAG⟩
 obtain ⟨a1,a2⟩:=hB.ars.new hB.ro hb1 hs1 (ta:=162) (tc:=192) hAG
 have hB1:BW w0 w1 _ P gens free (D++[⟨162,192,⟨w.heap.size+1,w.heap.size,[],0⟩⟩]):=⟨hB.ro.step a2 (by simp),a1⟩
 obtain ⟨hA2,hU2⟩:=am_start hB1 hcnt
 have hRU:=a2.trans hU2
 obtain ⟨T0,hT0⟩:∃ T0,T0=T00 (mark (mark (mark ρ (w.heap.size+1) (11+3*D.length)) w.heap.size (12+3*D.length)) w1.heap.size 4) P gens free D (w.heap.size+1) w.heap.size w1.heap.size:=⟨_,rfl⟩
 have q1:T0.ρ=mark (mark (mark ρ (w.heap.size+1) (11+3*D.length)) w.heap.size (12+3*D.length)) w1.heap.size 4:=by rw [hT0];rfl
 have q2:T0.P=P:=by rw [hT0];rfl
 have q3:T0.free=free:=by rw [hT0];rfl
 have q4:T0.D=D++[⟨162,192,⟨w.heap.size+1,w.heap.size,[],0⟩⟩]:=by rw [hT0];rfl
 have q5:T0.i=D.length:=by rw [hT0];rfl
 have q6:T0.t=w1.heap.size:=by rw [hT0];rfl
 have q7:T0.F=[]∧T0.n=0∧T0.ly=0:=by rw [hT0];exact ⟨rfl,rfl,rfl⟩
 rw [← hT0] at hA2
 rw [← q1] at hRU
 have hLy:=hA2.layer (by rw [q3];exact hfr) (by rw [q7.2.2];omega)
 rw [q6] at hLy
 obtain ⟨wt,hwt⟩:∃ W,W=w1.alloc (.cells (treeC P.1 (w.heap.size+1) (0,0) 0 0) 73):=⟨_,rfl⟩
 rw [← hwt] at hA2 hLy hRU
 obtain ⟨tb,htb⟩:∃ tb,tb=w1.heap.size:=⟨_,rfl⟩
 rw [← htb] at hLy q6
 replace hLy:=qh hLy
 replace q1:=qh q1
 replace q2:=qh q2
 replace q3:=qh q3
 replace q4:=qh q4
 replace q5:=qh q5
 replace q6:=qh q6
 replace q7:=qh q7
 replace hRU:=qh hRU
 replace hA2:=qh hA2
 replace hwt:=qh hwt
 replace hs1:=qh hs1
 replace hb1:=qh hb1
 replace hB:=qh hB
 replace hT0:=qh hT0
 replace htb:=qh htb
 clear a1 hB1 hU2 hAG a2 hcnt
 go_wp2_with fail
 rw [← show wt=w1.alloc (.cells #[.pointer (some ⟨P.1,0,none⟩),.pointer (some ⟨w.heap.size+1,0,none⟩),.int .i64 0,.int .u64 0,.int .i64 0,.int .i64 0,.bool false] 73) from hwt.out,← htb.out]
 refine hLy.out.mono ?_
 rintro e w2 ⟨g,_,rfl,T1,hA3,hE3,hF3,hn3,hl3,hr3,hc3⟩
 have hblk:w2.heap[tb]?=some (.cells (treeC T1.P.1 T1.d.A.a T1.r T1.n T1.ly) 73):=by
  have:=hA3.blk;rw [hE3.t,q6.out] at this;exact this
 have c2:w2.cell? ⟨tb,2,none⟩=some (.int .i64 T1.r.1):=by rw [cell_of_heap hblk];rfl
 have c3:w2.cell? ⟨tb,3,none⟩=some (.int .u64 T1.r.2):=by rw [cell_of_heap hblk];rfl
 have cf:=frozen_of_heap hblk
 have ctl:=heap_lt hblk
 have hu7:Upd [T1.t] w2 ((w2.setCell ⟨tb,2,none⟩ (.int .i64 g.1)).setCell ⟨tb,3,none⟩ (.int .u64 g.2)):=((Upd.refl [T1.t] w2).setCell (p:=⟨tb,2,none⟩) (by rw [hE3.t,q6.out];simp) _).setCell (p:=⟨tb,3,none⟩) (by rw [hE3.t,q6.out];simp) _
 have hb7:((w2.setCell ⟨tb,2,none⟩ (.int .i64 g.1)).setCell ⟨tb,3,none⟩ (.int .u64 g.2)).heap[T1.t]?=some (.cells (treeC T1.P.1 T1.d.A.a g T1.n T1.ly) 73):=by rw [hE3.t,q6.out,heap_set_same (heap_set_same hblk 2 _) 3 _];rfl
 obtain ⟨a6,ev6⟩:=hA3.own g T1.n T1.ly hu7 hb7
 have hbx:=(Below.refl ((w2.setCell ⟨tb,2,none⟩ (.int .i64 g.1)).setCell ⟨tb,3,none⟩ (.int .u64 g.2)).heap.size _).alloc (Nat.le_refl _) (.cells #[.int .i64 g.1,.int .u64 g.2] 71)
 have a7:=a6.below hbx
 have hEv:=(hE3.trans ev6).trans (TEv.below a6 hbx)
 have hend:Hid (NewS w0 w ρ P free D (.returned (.tuple #[.pointer (some ⟨tb,0,none⟩),.int .i64 0])) (((w2.setCell ⟨tb,2,none⟩ (.int .i64 g.1)).setCell ⟨tb,3,none⟩ (.int .u64 g.2)).alloc (.cells #[.int .i64 g.1,.int .u64 g.2] 71))):=qh (by
  refine ⟨{ T1 with r:=g,n:=T1.n,ly:=T1.ly },g,?_,MTw.one a7 ?_ rfl ?_ ?_,hEv.P.trans q2.out,hEv.i.trans q5.out,?_,?_,?_,?_,fun j hj=>?_⟩
  ·show Ending.returned (.tuple #[.pointer (some ⟨tb,0,none⟩),.int .i64 0])=Ending.returned (.tuple #[.pointer (some ⟨T1.t,0,none⟩),.int .i64 0])
   rw [hE3.t,q6.out]
  ·show T1.F=_
   rw [hF3,q7.out.1];rfl
  ·show T1.n=0
   rw [hn3,q7.out.2.1]
  ·show T1.ly=1
   rw [hl3,q7.out.2.2]
  ·show T1.free.count true+1=_
   rw [hc3,q3.out]
  ·show T1.free.length=_
   rw [hE3.fl,q3.out]
  ·have h1:=hEv.ru
   rw [q5.out] at h1;exact (hRU.out.mono (by simp)).trans h1
  ·show T1.D.length=_
   rw [hE3.dl,q4.out];simp
  ·show T1.D[j]?=D[j]?
   rw [hE3.dj j (by rw [q5.out];omega),q4.out,List.getElem?_append_left hj])
 clear hu7 hb7 a6 ev6 a7 hEv hA3 hE3 hF3 hn3 hl3 hr3 hc3 hblk hbx
 go_wp2_with fail
 refine bodyPost_ret (v:=.tuple #[.pointer (some ⟨tb,0,none⟩),.int .i64 0]) (by simp [results,Tryz.results12,go_sem]) rfl hend.out
end
open Go.RowKit
section
variable {w0 w w':World} {T:TS} {S:List Nat} {Y:List Ly} {C:Cont Str}
theorem below_of {ρ:Nat→Nat} (hK:Kp ρ ρ w w') (hU:RU [0] w w' ρ ρ):Below w.heap.size w w' :=
 ⟨hK.os,hK.tape,hK.output,hK.size,fun k hk=>by
  by_cases h0:ρ k=0
  ·exact (hK.box k hk h0).1
  ·exact hU.block k hk (by simpa using h0)⟩
theorem MTr.rdrB (h:MTr w0 w T Y C):Rdr w0 (VsS Y C) T.t T.d.A.a .nilFunc (fun _ W=>AM w0 W T∧RU [0] w W T.ρ T.ρ) (fun _=>T.ρ) 0 where
 ok:=⟨fun _ _=>h.sane,fun _ _=>⟨C,h.ct,fun _ hk=>hk⟩,fun _ _ _ _ _=>trivial,fun _ _ _ _ _=>trivial⟩
 ro:=fun _ _ hW=>hW.1.bw.ro
 wr:=fun _ _ _ _ hW hu hS=>⟨hW.1.own0 hu hS,hW.2.trans (RU.upd hW.1.bw.ro hu fun k hk _=>by simp [(hS k hk).2])⟩
 tree:=fun _ _ hW=>hW.1.cells.2.1
 root:=fun _ _ hW=>⟨T.r,hW.1.cells.2.2.1,hW.1.cells.2.2.2.1,fun _=>h.ro⟩
 look:=fun _ W g hW _=>by
  refine (mtLook_nil hW.1 g fun x hx=>Seen.one ⟨⟨T.ρ,hW.1.ok x hx⟩,h.kd x hx⟩).mono ?_;rintro e w' ⟨hb,hc⟩;refine ⟨(),⟨To.refl _ _,trivial⟩,.inl rfl,⟨hW.1.below hb,hW.2.trans ((RU.below (rs:=[]) hW.1.bw.ro hb).mono (by simp))⟩,Kp.below hb,.inr ⟨rfl,?_⟩⟩;rintro ⟨n,hn⟩;obtain ⟨x,hx,hxe⟩:=h.mem.1 hn;injection hxe with h1 h2;rcases hc with ⟨x2,hx2,h3,rfl⟩ | ⟨hno,-⟩
  ·exact ⟨x2.2,rfl,h.mem.2 ⟨x2,hx2,by rw [h3]⟩,⟨⟨T.ρ,(hW.1.below hb).ok x2 hx2⟩,h.kd x2 hx2⟩⟩
  ·exact absurd h1 (hno x hx)
theorem MTr.getB (h : MTr w0 w T Y C) (key : Str) (hk : key.size ≤ 100000000) : Calls Tryz.prog 15 #[.pointer (some ⟨T.t, 0, none⟩), .string key, .nilFunc] w fun e w' =>
    e=.returned (.tuple #[.string ((M.cget C key).getD s0),.bool (M.cget C key).isSome,.bool false])∧Below w.heap.size w w':=by
 refine (h.rdrB.get (s:=()) (N:=0) key hk ⟨h.am,(RU.refl (rs:=[0]) h.am.bw.ro)⟩ (.inl rfl) (.inl rfl)).mono ?_
 rintro e w' ⟨s',_,hS,hK,_,hc⟩
 rcases hc with ⟨hg,_⟩ | ⟨_,o,⟨ho,_⟩,rfl⟩
 ·cases hg
 ·rw [ho C h.ct]
  exact ⟨rfl,below_of hK hS.2⟩
theorem MTr.nextB (h : MTr w0 w T Y C) (key : Str) (hk : key.size ≤ 100000000) (after : Bool) : Calls Tryz.prog 18 #[.pointer (some ⟨T.t, 0, none⟩), .string key, .bool after, .nilFunc] w fun e w' =>
    e=.returned (.tuple #[.string (fK (M.cnext C key after)),.string (fX (M.cnext C key after)),.bool (M.cnext C key after).isSome,.bool false])∧Below w.heap.size w w':=by
 refine (h.rdrB.next rfl (s:=()) key hk after ⟨h.am,(RU.refl (rs:=[0]) h.am.bw.ro)⟩).mono ?_
 rintro e w' ⟨s',_,hS,hK,hc⟩
 rcases hc with ⟨hg,_⟩ | ⟨_,o,ho,rfl⟩
 ·cases hg
 ·rw [SrOK.eq h.ct ho]
  exact ⟨rfl,below_of hK hS.2⟩
end
section
variable {w0 w:World} {T:TS} {Y:List Ly} {C:Cont Str}
theorem MTr.on (h:MTr w0 w T Y C) {w':World} (hA:AM w0 w' T):MTr w0 w' T Y C:=⟨hA,h.sane,h.ct,h.ro,h.fl,h.kd,h.ly,h.n⟩
end
open Go.RowKit
section
variable {w0 w w':World} {T:TS} {S:List Nat}
theorem MGn.below (h:MGn w0 w T) (hb:Below w.heap.size w w'):MGn w0 w' T:=by
 obtain ⟨r1,r2,hk⟩:=h.blk
 exact ⟨h.bw.below hb,h.hd,h.ta,h.tc,h.rol,⟨r1,r2,Below.heap' hb hk⟩,h.emp,h.cnt⟩
theorem MGn.own0 (h:MGn w0 w T) (hu:Upd S w w') (hS:∀ q,q∈S→w0.heap.size≤q∧T.ρ q=0):MGn w0 w' T:=by
 have hU:RU [0] w w' T.ρ T.ρ:=RU.upd h.bw.ro hu (fun k hk _=>by simp [(hS k hk).2])
 obtain ⟨r1,r2,hk⟩:=h.blk
 exact ⟨⟨⟨own_below0 h.bw.ro.bel hu fun k hk=>(hS k hk).1,fun k hk=>h.bw.ro.old k hk,hU.far⟩,Ars.ru00 h.bw.ars hU⟩,h.hd,h.ta,h.tc,h.rol,⟨r1,r2,hU.heap hk (by rw [h.rol];simp)⟩,h.emp,h.cnt⟩
theorem MGn.cells (h:MGn w0 w T):∃ r1 r2,w.cell? ⟨T.t,1,none⟩=some (.pointer (some ⟨T.d.A.a,0,none⟩))∧w.cell? ⟨T.t,2,none⟩=some (.int .i64 r1)∧w.cell? ⟨T.t,3,none⟩=some (.int .u64 r2)∧w.cell? ⟨T.t,4,none⟩=some (.int .i64 0)∧w.cell? ⟨T.t,5,none⟩=some (.int .i64 0)∧w.cell? ⟨T.t,6,none⟩=some (.bool true)∧T.t < w.heap.size:=by
 obtain ⟨r1,r2,hb⟩:=h.blk
 refine ⟨r1,r2,?_,?_,?_,?_,?_,?_,heap_lt hb⟩ <;> rw [cell_of_heap hb] <;> rfl
theorem MGn.live (h:MGn w0 w T):Calls Tryz.prog 59 #[.pointer (some ⟨T.d.A.a,0,none⟩)] w fun e w'=>e=.returned (.int .i64 0)∧Below w.heap.size w w':=by
 have:=AMnode.gLive T.d.A [] (some ⟨T.P.1,0,none⟩) w (h.bw.ag h.hd h.ta h.tc)
 rw [h.emp] at this
 exact this
def VsG:Vs Unit:=⟨fun _=>[],fun _=>true,fun _=>0,fun _=>0,true,fun _ _=>True,fun _ _=>True⟩
theorem MGn.rdr (_h:MGn w0 w T):Rdr w0 VsG T.t T.d.A.a .nilFunc (fun _ W=>MGn w0 W T∧RU [0] w W T.ρ T.ρ) (fun _=>T.ρ) 0 where
 ok:=⟨fun _ hg=>(by cases hg),fun _ hg=>(by cases hg),fun _ _ _ _ _=>trivial,fun _ _ _ _ _=>trivial⟩
 ro:=fun _ _ hW=>hW.1.bw.ro
 wr:=fun _ _ _ _ hW hu hS=>⟨hW.1.own0 hu hS,hW.2.trans (RU.upd hW.1.bw.ro hu fun k hk _=>by simp [(hS k hk).2])⟩
 tree:=fun _ _ hW=>by obtain ⟨r1,r2,c,_⟩:=hW.1.cells;exact c
 root:=fun _ _ hW=>by
  obtain ⟨r1,r2,_,c2,c3,_⟩:=hW.1.cells;exact ⟨(r1,r2),c2,c3,fun hg=>by cases hg⟩
 look:=fun _ W g hW _=>by
  obtain ⟨r1,r2,c1,_⟩:=hW.1.cells;refine (mtLook_gone c1 g (qh fun W2 hW2=>(hW.1.bw.below hW2).dead hW.1.hd hW.1.ta hW.1.tc fun e he=>by rw [hW.1.emp] at he;cases he)).mono ?_;rintro e w' ⟨hb,rfl⟩;exact ⟨(),⟨To.refl _ _,trivial⟩,.inl rfl,⟨hW.1.below hb,hW.2.trans ((RU.below (rs:=[]) hW.1.bw.ro hb).mono (by simp))⟩,Kp.below hb,.inl ⟨rfl,rfl⟩⟩
theorem MGn.get (h:MGn w0 w T) (key:Str) (hk:key.size≤100000000):Calls Tryz.prog 15 #[.pointer (some ⟨T.t,0,none⟩),.string key,.nilFunc] w fun e w'=>e=.returned (.tuple #[.string ⟨#[]⟩,.bool false,.bool true])∧Below w.heap.size w w':=by
 refine (h.rdr.get (s:=()) (N:=0) key hk ⟨h,(RU.refl (rs:=[0]) h.bw.ro)⟩ (.inl rfl) (.inl rfl)).mono ?_
 rintro e w' ⟨s',_,hS,hK,_,hc⟩
 rcases hc with ⟨_,rfl⟩ | ⟨hg,_⟩
 ·exact ⟨rfl,below_of hK hS.2⟩
 ·cases hg
theorem MGn.put (h:MGn w0 w T) (key v:Str):Calls Tryz.prog 22 #[.pointer (some ⟨T.t,0,none⟩),.string key,.string v] w fun e w'=>e=.returned (.tuple #[.string ⟨#[]⟩,.bool false,.int .i64 8])∧Below w.heap.size w w':=by
 obtain ⟨r1,r2,c1,c2,c3,c4,c5,c6,hq⟩:=h.cells
 have hn:=none_ok c1
 clear h
 go_enter Tryz.func22,Tryz.ntmps22
 go_wp2_with fail
 refine hn.mono ?_
 rintro e w1 ⟨rfl,rfl⟩
 go_wp2_with fail
 go_ret3
 exact ⟨rfl,Below.refl _ _⟩
theorem MGn.drop (h:MGn w0 w T):Calls Tryz.prog 41 #[.pointer (some ⟨T.t,0,none⟩)] w fun e w'=>e=.returned (.tuple #[])∧w=w':=by
 obtain ⟨r1,r2,c1,c2,c3,c4,c5,c6,hq⟩:=h.cells
 have hn:=none_ok c1
 clear h
 go_enter Tryz.func41,Tryz.ntmps41
 go_wp2_with fail
 refine hn.mono ?_
 rintro e w1 ⟨rfl,rfl⟩
 go_wp2_with fail
 exact ⟨rfl,.tuple #[],by simp [results,Tryz.results41,go_sem],rfl,rfl⟩
theorem MGn.layers (h:MGn w0 w T):Calls Tryz.prog 27 #[.pointer (some ⟨T.t,0,none⟩)] w fun e w'=>e=.returned (.int .i64 0)∧w=w':=by
 obtain ⟨r1,r2,c1,c2,c3,c4,c5,c6,hq⟩:=h.cells
 have hn:=none_ok c1
 clear h
 go_enter Tryz.func27,Tryz.ntmps27
 go_wp2_with fail
 refine hn.mono ?_
 rintro e w1 ⟨rfl,rfl⟩
 go_wp2_with fail
 go_ret
 exact ⟨rfl,rfl⟩
theorem MGn.check (h:MGn w0 w T):Calls Tryz.prog 20 #[.pointer (some ⟨T.t,0,none⟩)] w fun e w'=>e=.returned (.bool true)∧Below w.heap.size w w':=by
 obtain ⟨r1,r2,c1,c2,c3,c4,c5,c6,hq⟩:=h.cells
 have hn:=none_ok c1
 have hL:=qh h.live
 have hk:=qh fun W (hW:Below w.heap.size w W)=>(h.below hW).cells
 clear h
 go_enter Tryz.func20,Tryz.ntmps20
 go_wp2_with fail
 refine hn.mono ?_
 rintro e w1 ⟨rfl,rfl⟩
 go_wp2_with fail
 refine hL.out.mono ?_
 rintro e w1 ⟨rfl,hb⟩
 obtain ⟨s1,s2,d1,d2,d3,d4,d5,d6,dq⟩:=hk.out w1 hb
 replace hb:=qh hb
 go_wp2_with fail
 go_ret
 exact ⟨rfl,hb.out⟩
end
end Go.Proofs.YtbdealmkmpnpoaaGreat.M
namespace Go.Proofs.YtbdealmkmpnpoaaGreat
open Go.RowKit Go.Sort
variable {α:Type} [Inhabited α] {base k:Nat} {e:TypeId} {f:α→List Value} {w:World} {L:List α}
theorem flatK_eq (hf:∀ x,(f x).length=k) (hk:0 < k) (L:List α):(flatK f k L.toArray).toList=L.flatMap f:=by
 apply List.ext_getElem?
 intro t
 by_cases ht:t < L.length*k
 ·have hq:t / k < L.length:=by rw [Nat.div_lt_iff_lt_mul hk];exact ht
  have hr:t % k < k:=Nat.mod_lt _ hk;have h1:L[t / k]?=some L[t / k]:=List.getElem?_eq_getElem hq;have h2:(f L[t / k])[t % k]?=some ((f L[t / k])[t % k]'(by rw [hf];exact hr)):=List.getElem?_eq_getElem _;have h3:=flat_get hf L (t / k) _ h1 (t % k) _ h2;rw [show t / k*k+t % k=t by rw [Nat.mul_comm];exact Nat.div_add_mod t k] at h3;rw [h3,Array.getElem?_toList,Array.getElem?_eq_getElem (by rw [size_flatK];simpa using ht)];have h4:=get_flatK f k L.toArray t (by simpa using ht);rw [getElem!_pos _ t (by rw [size_flatK];simpa using ht)] at h4;rw [h4];simp [getElem!_pos,hq,h2]
 ·rw [List.getElem?_eq_none (by rw [Array.length_toList,size_flatK];simpa using ht),List.getElem?_eq_none (by rw [flat_len hf];omega)]
theorem Row.holdsK {b n cap:Nat} (h:Row base e k f w (.slice (some ⟨b,0,none⟩) n cap) L) (hk:0 < k):HoldsK f k w b 0 L.toArray:=by
 rcases h.cases with ⟨h0,_⟩ | ⟨b',cap',h0,_,_,_,_,_,hc,hfz⟩
 ·cases h0
 ·injection h0 with h0 _ _
  injection h0 with h0;injection h0 with h0;subst h0;intro j hj;have hj':j < (L.flatMap f).length:=by rw [flat_len h.1];simpa using hj
  refine ⟨?_,by rw [Nat.zero_add];exact hfz _⟩;have h2:=hc j _ (List.getElem?_eq_getElem hj');rw [Nat.zero_add,h2];have h3:=flatK_eq h.1 hk L
  have h4:(flatK f k L.toArray)[j]! = (L.flatMap f)[j]:=by
   rw [getElem!_pos _ j hj];have:(flatK f k L.toArray).toList[j]'(by simpa using hj)=(L.flatMap f)[j]:=by simp only [h3]
   simpa using this
  rw [id,h4]
theorem take_putCells_id (cur:Array Value) (ts:List Value) (h:ts.length≤cur.size):(putCells id 0 ts.toArray cur).toList.take ts.length=ts:=by
 apply List.ext_getElem?
 intro j
 by_cases hj:j < ts.length
 ·rw [List.getElem?_take_of_lt hj,Array.getElem?_toList]
  simp [putCells,hj,Nat.lt_of_lt_of_le hj h]
 ·rw [List.getElem?_eq_none (by simp;omega),List.getElem?_eq_none (by omega)]
theorem Row.sorted {b n cap : Nat} (h : Row base e k f w (.slice (some ⟨b, 0, none⟩) n cap) L) (hk : 0 < k) (L' : List α) (hl : L'.length = L.length) (m : Nat) (os : Array Obj) :
    Row base e k f (sortWorldK f k w b 0 m L'.toArray os) (.slice (some ⟨b,0,none⟩) n cap) L'∧Upd [b] w (sortWorldK f k w b 0 m L'.toArray os):=by
 have hfl:(flatK f k L'.toArray)=(L'.flatMap f).toArray:=by rw [← flatK_eq h.1 hk L']
 obtain ⟨hf,h1,h2,h3⟩:=h
 rcases h3 with ⟨h0,_⟩ | ⟨g,cap',cur,h0,q1,q2,q3,q4,q5,q6⟩
 ·cases h0
 ·have hL:n=L.length:=by injection h0
  injection h0 with e1 e2 e3;injection e1 with e1;injection e1 with e1;subst e1 e3;have hgl:b < w.heap.size:=heap_lt q2
  have hb':(sortWorldK f k w b 0 m L'.toArray os).heap[b]?=some (.cells (putCells id 0 (L'.flatMap f).toArray cur) e (0,0)):=by
   unfold sortWorldK putRowK;rw [hfl,heap_grow_old _ _ (by simp [putRow,mapBlock,Sort.ahead];exact hgl)];simp [putRow,mapBlock,Sort.ahead,Array.getElem?_modify,q2,onCells]
  have hlen:(L'.flatMap f).length≤cur.size:=by
   rw [flat_len hf,hl,q5];exact Nat.mul_le_mul_right _ q3
  refine ⟨⟨hf,h1,flat_len hf L',.inr ⟨b,cap,_,?_,q1,hb',by rw [hl];exact q3,q4,by simp [putCells,q5],?_⟩⟩,⟨rfl,rfl,rfl,?_,fun j hj hn=>?_⟩⟩
  ·rw [hl,← hL]
  ·rw [← flat_len hf]
   exact take_putCells_id cur _ hlen
  ·simp [sortWorldK,putRowK,grow,putRow,mapBlock,Sort.ahead]
  ·have hjb:b≠j:=fun e1=>hn (by rw [e1];simp)
   unfold sortWorldK putRowK;rw [heap_grow_old _ _ (by simpa [putRow,mapBlock,Sort.ahead] using hj)];simp [putRow,mapBlock,Sort.ahead,Array.getElem?_modify,hjb]
end Go.Proofs.YtbdealmkmpnpoaaGreat
namespace Go.Proofs
open Go.Shelf
def Tryz.sortHandles_ren:Go.Shelf.Ren:=⟨fun | 6=>127 | 15=>153 | 14=>152 | 28=>167 | 29=>168 | 20=>159 | 21=>160 | 22=>161 | 23=>162 | 24=>163 | 25=>164 | 26=>165 | 27=>166 | 46=>172 | 47=>173 | 48=>174 | 49=>175 | 50=>176 | 57=>178 | n=>n,fun | 22=>77 | 24=>71 | 25=>215 | 3=>3 | 39=>223 | 0=>0 | 53=>252 | 55=>69 | 4=>4 | 46=>246 | 45=>245 | 50=>108 | 5=>5 | 9=>9 | 66=>254 | 70=>257 | 76=>260 | 77=>261 | n=>n,fun | n=>n⟩
theorem Tryz.sortHandles:Go.Proofs.SlLaysF0.n6 Tryz.prog Tryz.sortHandles_ren:={
 mixed:=by kernel_rfl
 f6:=⟨Tryz.f127.name,by decide,Tryz.func127.trans (congrArg some (by kernel_rfl))⟩
 f14:=⟨Tryz.f152.name,by decide,Tryz.func152.trans (congrArg some (by kernel_rfl))⟩
 f15:=Tryz.func153.trans (congrArg some (by kernel_rfl))
 f20:=⟨Tryz.f159.name,by decide,Tryz.func159.trans (congrArg some (by kernel_rfl))⟩
 f21:=⟨Tryz.f160.name,by decide,Tryz.func160.trans (congrArg some (by kernel_rfl))⟩
 f22:=⟨Tryz.f161.name,by decide,Tryz.func161.trans (congrArg some (by kernel_rfl))⟩
 f23:=⟨Tryz.f162.name,by decide,Tryz.func162.trans (congrArg some (by kernel_rfl))⟩
 f24:=⟨Tryz.f163.name,by decide,Tryz.func163.trans (congrArg some (by kernel_rfl))⟩
 f25:=⟨Tryz.f164.name,by decide,Tryz.func164.trans (congrArg some (by kernel_rfl))⟩
 f26:=⟨Tryz.f165.name,by decide,Tryz.func165.trans (congrArg some (by kernel_rfl))⟩
 f27:=⟨Tryz.f166.name,by decide,Tryz.func166.trans (congrArg some (by kernel_rfl))⟩
 f28:=Tryz.func167.trans (congrArg some (by kernel_rfl))
 f29:=Tryz.func168.trans (congrArg some (by kernel_rfl))
 f46:=⟨Tryz.f172.name,by decide,Tryz.func172.trans (congrArg some (by kernel_rfl))⟩
 f47:=Tryz.func173.trans (congrArg some (by kernel_rfl))
 f48:=Tryz.func174.trans (congrArg some (by kernel_rfl))
 f49:=⟨Tryz.f175.name,by decide,Tryz.func175.trans (congrArg some (by kernel_rfl))⟩
 f50:=⟨Tryz.f176.name,by decide,Tryz.func176.trans (congrArg some (by kernel_rfl))⟩
 f57:=⟨Tryz.f178.name,by decide,Tryz.func178.trans (congrArg some (by kernel_rfl))⟩
 t0:=Tryz.underlying0
 a0:=Tryz.isAgg0
 z0:=Tryz.sizeOf0
 v0:=Tryz.zeroValue0
 t3:=Tryz.underlying3
 a3:=Tryz.isAgg3
 z3:=Tryz.sizeOf3
 v3:=Tryz.zeroValue3
 t4:=Tryz.underlying4
 a4:=Tryz.isAgg4
 z4:=Tryz.sizeOf4
 v4:=Tryz.zeroValue4
 t5:=Tryz.underlying5
 a5:=Tryz.isAgg5
 z5:=Tryz.sizeOf5
 v5:=Tryz.zeroValue5
 t9:=Tryz.underlying9
 a9:=Tryz.isAgg9
 z9:=Tryz.sizeOf9
 v9:=Tryz.zeroValue9
 t22:=Tryz.underlying77
 a22:=Tryz.isAgg77
 z22:=Tryz.sizeOf77
 v22:=Tryz.zeroValue77
 t25:=Tryz.underlying215
 a25:=Tryz.isAgg215
 z25:=Tryz.sizeOf215
 v25:=Tryz.zeroValue215
 t39:=Tryz.underlying223
 a39:=Tryz.isAgg223
 z39:=Tryz.sizeOf223
 v39:=Tryz.zeroValue223
 t45:=Tryz.underlying245
 a45:=Tryz.isAgg245
 z45:=Tryz.sizeOf245
 v45:=Tryz.zeroValue245
 t46:=Tryz.underlying246
 a46:=Tryz.isAgg246
 z46:=Tryz.sizeOf246
 v46:=Tryz.zeroValue246
 t50:=Tryz.underlying108
 a50:=Tryz.isAgg108
 z50:=Tryz.sizeOf108
 v50:=Tryz.zeroValue108
 t53:=Tryz.underlying252
 a53:=Tryz.isAgg252
 z53:=Tryz.sizeOf252
 v53:=Tryz.zeroValue252
 t55:=Tryz.underlying69
 a55:=Tryz.isAgg69
 z55:=Tryz.sizeOf69
 v55:=Tryz.zeroValue69
 t66:=Tryz.underlying254
 a66:=Tryz.isAgg254
 z66:=Tryz.sizeOf254
 v66:=Tryz.zeroValue254
 t70:=Tryz.underlying257
 a70:=Tryz.isAgg257
 z70:=Tryz.sizeOf257
 v70:=Tryz.zeroValue257
 t76:=Tryz.underlying260
 a76:=Tryz.isAgg260
 z76:=Tryz.sizeOf260
 v76:=Tryz.zeroValue260
 t77:=Tryz.underlying261
 a77:=Tryz.isAgg261
 z77:=Tryz.sizeOf261
 v77:=Tryz.zeroValue261 }
def Tryz.cmpInt_ren:Go.Shelf.Ren:=⟨fun | 5=>129 | 7=>154 | n=>n,fun | 22=>3 | 3=>3 | 4=>4 | n=>n,fun | n=>n⟩
theorem Tryz.cmpInt:Go.Proofs.SlLaysC2.n5 Tryz.prog Tryz.cmpInt_ren:={
 mixed:=by kernel_rfl
 f5:=⟨Tryz.f129.name,by decide,Tryz.func129.trans (congrArg some (by kernel_rfl))⟩
 f7:=⟨Tryz.f154.name,by decide,Tryz.func154.trans (congrArg some (by kernel_rfl))⟩
 t3:=Tryz.underlying3
 a3:=Tryz.isAgg3
 z3:=Tryz.sizeOf3
 v3:=Tryz.zeroValue3
 t4:=Tryz.underlying4
 a4:=Tryz.isAgg4
 z4:=Tryz.sizeOf4
 v4:=Tryz.zeroValue4
 t22:=Tryz.underlying3
 a22:=Tryz.isAgg3
 z22:=Tryz.sizeOf3
 v22:=Tryz.zeroValue3 }
end Go.Proofs
namespace Go.Proofs.YtbdealmkmpnpoaaGreat
open Go.RowKit Go.Sort
def hcell (x:Int×Int):List Value:=[.int .i64 x.1,.int .u64 x.2]
theorem hcell_len (x:Int×Int):(hcell x).length=2:=rfl
theorem hcell_one (x:Int×Int):∀ y∈hcell x,y.oneCell'=true:=by
 intro y hy
 simp [hcell] at hy
 rcases hy with rfl | rfl <;> rfl
def cmpSlot (x y:Int×Int):Int:=Lib.compareInt x.1 y.1
theorem ltSlot (x y:Int×Int):ltOf cmpSlot x y=decide (x.1 < y.1):=by
 unfold ltOf cmpSlot Lib.compareInt
 by_cases h1:x.1 < y.1
 ·simp [h1]
 ·by_cases h2:y.1 < x.1 <;> simp [h1,h2]
theorem swoSlot:SWO (ltOf cmpSlot) where
 irrefl x:=by rw [ltSlot];simp
 trans x y z h1 h2:=by rw [ltSlot] at *;simp at *;omega
 ntrans x y z h1 h2:=by rw [ltSlot] at *;simp at *;omega
def CmpClo (g:FuncId):Prop:=∀ (x y:Int×Int) (W:World),Calls Tryz.prog g #[.agg #[.int .i64 x.1,.int .u64 x.2],.agg #[.int .i64 y.1,.int .u64 y.2]] W fun e w'=>e=.returned (.int .i64 (cmpSlot x y))∧∃ q os',w'=grow (W.drewN q) os'
theorem sortHands_any {base : Nat} {L : List (Int × Int)} (g : FuncId) (hg : CmpClo g) (eg : ∀ args w, (callFunc g args).run Tryz.prog w = .ok (.enter g args) w) (a : Option Addr) (c : Nat) (w : World) (h : Row base 71 2 hcell w (.slice a L.length c) L) (hl : L.length ≤ 1000000) :
    Calls Tryz.prog 127 #[.slice a L.length c,.func (.func g) #[] #[]] w fun e w'=>e=.returned (.tuple #[])∧∃ L',L'.Perm L∧L'.Pairwise (fun x y=>x.1≤y.1)∧Row base 71 2 hcell w' (.slice a L.length c) L'∧Upd (Value.slice a L.length c).ownBlock.toList w w':=by
 rcases h.cases with ⟨h0,rfl⟩ | ⟨b,cap,h0,h1,h2,h3,h4,h5,_⟩
 ·injection h0 with e1 e2 e3
  subst e1 e3;have hc:=AnyF.slices_SortFunc_none Tryz.sortHandles none 0 (.func (.func g) #[] #[]) w;refine hc.mono ?_;rintro z w' ⟨rfl,rfl⟩;exact ⟨rfl,[],.refl _,by simp,h,Upd.refl _ _⟩
 ·injection h0 with e1 e2 e3
  subst e1 e3;have hcon:=AnyQ.slices_SortFunc Tryz.sortHandles 2 Tryz.isAgg71 Tryz.sizeOf71 hcell hcell_len hcell_one cmpSlot swoSlot g #[] b 0 c L.toArray w eg (fun _ _ _ _ x y=>hg x y _) (h.holdsK (by decide)) h2 (by simp;omega);refine hcon.mono ?_;rintro z w' ⟨rfl,d',n,os,⟨hp1,_,hp3⟩,hs,rfl⟩;have hsz:d'.size=L.length:=by simpa using hp1
  have hpm:d'.toList.Perm L:=by
   have:=hp3;simp at this
   rwa [List.take_of_length_le (by simp [hsz])] at this
  obtain ⟨r1,r2⟩:=h.sorted (by decide) d'.toList (by simpa using hsz) n os;refine ⟨rfl,d'.toList,hpm,?_,by simpa using r1,by simpa [Value.ownBlock] using r2⟩;rw [List.pairwise_iff_getElem];intro i j hi hj hij;have h6:=hs i j (Nat.zero_le _) hij (by simpa [hsz] using hj);rw [ltSlot,getElem!_pos d' j (by simpa using hj),getElem!_pos d' i (by simpa using hi)] at h6;simp at h6 ⊢;exact h6
theorem hand_info:∃ i0:TypeInfo,Tryz.prog.info? 71=some i0∧i0.zero=some (.agg #[.int .i64 0,.int .u64 0])∧i0.size=2∧i0.bytes=16:=info_parts (show (Tryz.prog.info? 71).map (fun i=>(i.zero,i.size,i.bytes))=some (some (.agg #[.int .i64 0,.int .u64 0]),2,16) by kernel_rfl)
def hof (x:AEnt):Int×Int:=(x.slot,x.gen)
def handsOf (L:List AEnt):List (Int×Int):=(L.map hof).mergeSort fun x y=>decide (x.1≤y.1)
theorem slots_sorted {L:List AEnt} (hn:(L.map AEnt.slot).Nodup) {M:List (Int×Int)} (hp:M.Perm (L.map hof)) (hs:M.Pairwise (fun x y=>x.1≤y.1)):M=handsOf L:=by
 have tr:∀ a b c:Int×Int,decide (a.1≤b.1)=true→decide (b.1≤c.1)=true→decide (a.1≤c.1)=true:=fun a b c h1 h2=>by simp at *;omega
 have tz_:∀ a b:Int×Int,(decide (a.1≤b.1) || decide (b.1≤a.1))=true:=fun a b=>by simp;omega
 refine List.Perm.eq_of_pairwise (le:=fun x y=>x.1≤y.1) (fun a b ha hb h1 h2=>?_) hs ((List.pairwise_mergeSort tr tz_ (L.map hof)).imp (fun h=>by simpa using h)) (hp.trans (List.mergeSort_perm _ _).symm)
 have ha':=hp.mem_iff.1 ha
 have hb':=(List.mergeSort_perm _ _).mem_iff.1 hb
 obtain ⟨x,hx,rfl⟩:=List.mem_map.1 ha'
 obtain ⟨y,hy,rfl⟩:=List.mem_map.1 hb'
 have hxy:x.slot=y.slot:=by simp [hof] at h1 h2;omega
 have:x=y:=by
  have hn':=hn;clear hn hp hs ha hb ha' hb' h1 h2
  induction L with
  | nil=>cases hx
  | cons a l ih =>
   rw [List.map_cons,List.nodup_cons] at hn';rcases List.mem_cons.1 hx with hx | hx <;> rcases List.mem_cons.1 hy with hy | hy
   ·rw [hx,hy]
   ·exact absurd (by rw [← hx,hxy];exact List.mem_map_of_mem hy) hn'.1
   ·exact absurd (by rw [← hy,← hxy];exact List.mem_map_of_mem hx) hn'.1
   ·exact ih hx hy hn'.2
 rw [this]
open Go.RowKit Go.Sort
namespace AMnode
theorem cmp_clo:CmpClo 128:=by
 intro x y W
 have hcon:=fun W'=>AnyG.cmp_Compare_int Tryz.cmpInt x.1 y.1 W'
 change ∀ W',Calls Tryz.prog 129 _ _ _ at hcon
 unfold cmpSlot
 generalize Lib.compareInt x.1 y.1=r at hcon ⊢
 go_enter Tryz.func128,Tryz.ntmps128
 go_wp2_with (go_at_call 129;refine (hcon _).mono ?_;rintro e w' ⟨rfl,rfl⟩)
 go_ret
 exact ⟨rfl,0,_,by rw [alloc_eq_grow,alloc_eq_grow,grow_grow];rfl⟩
def HandlesEnd (L:List AEnt) (w:World) (z:Ending) (w':World):Prop :=
 ∃ a c,z=.returned (.slice a (handsOf L).length c)∧Row w.heap.size 71 2 hcell w' (.slice a (handsOf L).length c) (handsOf L)∧Below w.heap.size w w'
set_option maxRecDepth 100000 in
set_option maxHeartbeats 1000000 in
theorem aHandles_any (A : AR) (R : List Nat) (p : Option Addr) (w : World) (h : ArenaG 162 192 w R p A) (hbd : Born AEnt.born A.L A.c) (hl : A.L.length ≤ 100000) :
    Calls Tryz.prog 84 #[.pointer (some ⟨A.a,0,none⟩)] w (HandlesEnd A.L w):=by
 obtain ⟨q1,q2,q3,q4,q5,q6⟩:=h
 obtain ⟨aa,m,L,cc⟩:=A
 simp only at q1 q2 q3 q4 q5 q6 hbd hl ⊢
 have c1:w.cell? ⟨aa,1,none⟩=some (.map (some m)):=by rw [cell_of_heap q2];rfl
 have hmap:w.heap[m]?=some (.map (ents (L.map (entOf (fun e=>(e.slot:Int)) (fun e=>.pointer (some ⟨e.blk,0,none⟩)) AEnt.born))) cc):=q3
 have hml:=heap_lt hmap
 replace q4:=qh q4
 replace q6:=qh q6
 replace hmap:=qh hmap
 clear q1 q2 q3 q5
 obtain ⟨i0,hi0,hz0,hz1,hz2⟩:=hand_info
 go_enter Tryz.func84,Tryz.ntmps84
 go_wp2_with (at_range;refine wpList_range_ents _ rfl _ 160 rfl 3 188 Tryz.underlying160 m L cc rfl hmap.out hbd ?_;intro w0 hrg0 hb0 hs0)
 go_frame
 replace hrg0:=qh hrg0
 replace hb0:=qh hb0
 replace hs0:=qh hs0
 go_loopg [3] L.length (fun gk lv wr=>∃ (T:List AEnt) (a:Option Addr) (c:Nat),gk=L.length - T.length∧lv=.slice a T.length c∧Rg (fun e=>(e.slot:Int)) (fun e=>.pointer (some ⟨e.blk,0,none⟩)) AEnt.born wr w.heap.size m L cc T ∧
  Row w.heap.size 71 2 hcell wr (.slice a T.length c) (T.map hof)∧(Value.slice a T.length c).ownBlock≠some w.heap.size∧Below w.heap.size w wr)
 case atStart=>exact ⟨[],none,0,by simp,rfl,hrg0.out,Row.nil hcell_len hcell_one _ _ _,by simp [Value.ownBlock],hb0.out⟩
 case round =>
  obtain ⟨T,a,c,rfl,rfl,hrg,hrow,hoi,hB⟩:=hrel;have hlen:=hrg.len;replace hB:=qh hB;replace hrow:=qh hrow;replace hoi:=qh hoi;clear hrg0 hb0 hs0
  go_wp2_with (at_next;refine wpList_next_ents (mk:=fun e:AEnt=>(e.slot:Int)) (mv:=fun e=>.pointer (some ⟨e.blk,0,none⟩)) (bn:=AEnt.born) _ rfl _ rfl w.heap.size m L T cc rfl hrg ?_ ?_)
  ·intro hp
   have hln:T.length=(T.map hof).length:=by simp
   have hrw:=hrow.out;rw [hln] at hrw;have hsr:=qh (sortHands_any 128 cmp_clo (enters_of Tryz.func128 (by kernel_rfl) rfl) a c wr hrw (by simp;omega));rw [← hln] at hsr;replace hln:=qh hln;clear hrw hrg;go_wp2_with fail;refine hsr.out.mono ?_;clear hsr;rintro z w3 ⟨rfl,L',hpm,hpw,hr3,hu3⟩;have he:L'=handsOf L:=slots_sorted q4.out (hpm.trans (hp.map hof)) hpw;subst he;have hle:(handsOf L).length=T.length:=by rw [hpm.length_eq];simp
   go_wp2_with fail;go_ret;refine ⟨a,c,by rw [hle];rfl,by rw [hle];exact hr3,hB.out.trans (hu3.below hB.out.size (fun k hk=>(hrow.out.lt k (mem_own hk)).1))⟩
  ·intro x w1 hx hxT hrg1 hu1 hs1 hen
   have hxs:=q6.out x hx;have hb1:=hB.out.trans (hu1.below hB.out.size (by simp));have hg0:w1.cell? ⟨x.blk,0,none⟩=some (.int .u64 x.gen):=keep hb1 (by rw [cell_of_heap hxs.2];rfl);have hrow1:=hrow.out.upd hu1 (by simp;intro b hb hh;exact hoi.out (by rw [hb,hh]));have hrl:=hrg1.len;have hB2:Below w1.heap.size w1 (w1.alloc (.cells #[.int .i64 x.slot,.int .u64 x.gen] 71)):=(Below.refl _ _).alloc (Nat.le_refl _) _;have hR:=qh (hrow1.below hB2);have hS:=qh (SrcOf.one w1 71 (hcell (hof x)) (hcell_one _));have hbs:w.heap.size≤(w1.alloc (.cells #[.int .i64 x.slot,.int .u64 x.gen] 71)).heap.size:=Nat.le_trans hb1.size hB2.size;have hln:T.length=(T.map hof).length:=by simp
   have hm63:(T.map hof).length+[hof x].length≤maxLen:=by unfold maxLen;simp;simp at hrl;omega
   have hmby:((T.map hof).length+[hof x].length)*16≤140737488355328:=by simp;simp at hrl;omega
   replace hbs:=qh hbs;replace hm63:=qh hm63
   replace hmby:=qh hmby;replace hs1:=qh hs1;replace hu1:=qh hu1;replace hrl:=qh hrl;have hrg1':=qh hrg1;replace hb1:=qh hb1;replace hln:=qh hln;clear hrow1 hB2 hxs hrg hrg1
   go_wp2_with (at_builtin;refine wpList_append_row (f:=hcell) (L:=T.map hof) (M:=[hof x]) _ rfl _ _ 77 rfl w.heap.size 71 i0 (.agg #[.int .i64 0,.int .u64 0]) 2 16 Tryz.underlying77 hi0 hz0 hz1 hz2 rfl (by decide) (.slice a T.length c) rfl hR.out (.slice (some ⟨w1.heap.size,0,none⟩) 1 1) rfl hS.out hm63.out hmby.out hbs.out ?_;intro a5 c5 w5 hrow5 hu5 hat5;replace hrow5:=qh hrow5;replace hu5:=qh hu5;replace hat5:=qh hat5)
   go_roundg (L.length - (T.length+1))
   case measure =>
    have:=hrl.out;simp at this;omega
   case rel =>
    have e1:(T.map hof).length+[hof x].length=(T++[x]).length:=by simp
    have e2:T.map hof++[hof x]=(T++[x]).map hof:=by simp
    have hr5:=hrow5.out;rw [e1,e2] at hr5;have hnw:∀ q,q∈(Value.slice a T.length c).ownBlock.toList→w.heap.size≤q∧q≠w.heap.size:=fun q hq=>⟨(hrow.out.lt q (mem_own hq)).1,fun hh=>hoi.out (by rw [mem_own hq,hh])⟩
    have hu6:Upd (Value.slice a T.length c).ownBlock.toList w1 w5:=((Upd.refl _ _).alloc _).trans hu5.out;have h1:=hb1.out.size
    have hit:w.heap.size < w1.heap.size:=by
     obtain ⟨seen,c0,hh,_⟩:=hrg1'.out.it;exact heap_lt hh
    refine ⟨T++[x],a5,c5,by simp,by simp,hrg1'.out.upd hu6 (fun hh=>(hnw _ hh).2 rfl) (fun hh=>by have:=(hnw _ hh).1;omega),hr5,fun hh=>?_,hb1.out.trans (hu6.below h1 (fun k hk=>(hnw k hk).1))⟩;have hat:=hat5.out;rw [e1] at hat;rcases hat with h2 | h2
    ·rw [h2] at hh;exact hoi.out hh
    ·rw [h2] at hh;injection hh with hh;simp at hh;omega
end AMnode
end Go.Proofs.YtbdealmkmpnpoaaGreat
namespace Go.Proofs.YtbdealmkmpnpoaaGreat.M
open Go.RowKit
theorem handsM:HandsOK:=fun A p W h hb hl=>by
 refine (AMnode.aHandles_any A [] p W h hb hl).mono ?_
 rintro e w' ⟨a,c,he,hr,hbw⟩
 exact ⟨a,c,handsOf A.L,he,hr,List.mergeSort_perm _ _,hbw⟩
structure LS where
 n:Nat
 T:TS
def VsL (Y:List Ly):Vs LS:=⟨fun _=>Y,fun s=>decide (2≤s.n),fun s=>2 - s.n,fun _=>0,true,fun _ _=>True,fun a b=>a.n < b.n∨2≤b.n⟩
theorem vsl_ok {Y:List Ly} {C:Cont Str} (hs:SaneY Y) (hc:MCt Y C):VsOK (VsL Y) where
 sane:=fun _ _=>hs
 now:=fun _ _=>⟨C,hc,fun _ _=>trivial⟩
 lbl:=fun a b c ht hb=>by
  have h1:2 - b.n≤2 - a.n:=ht.le;have h2:b.n < c.n∨2≤c.n:=hb
  show a.n < c.n∨2≤c.n
  omega
 lbr:=fun a b c hb ht=>by
  have h1:2 - c.n≤2 - b.n:=ht.le;have h2:a.n < b.n∨2≤b.n:=hb
  show a.n < c.n∨2≤c.n
  omega
theorem vsl_to {Y:List Ly} {s s':LS} (h:s.n≤s'.n):To (VsL Y) s s':=by
 refine ⟨by show 2 - s'.n≤2 - s.n;omega,fun _ h=>h,fun hg=>?_,fun _=>rfl⟩
 have hg':decide (2≤s'.n)=false:=hg
 rw [decide_eq_false_iff_not] at hg'
 exact ⟨by show decide (2≤s.n)=false;rw [decide_eq_false_iff_not];omega,EvoY.refl _⟩
structure StL (w0:World) (tt A p b bx c0:Nat) (C:Cont Str) (k pt:Nat) (Y:List Ly) (s:LS) (W:World):Prop where
 t:s.T.t=tt
 a:s.T.d.A.a=A
 p:s.T.P.1=p
 c:s.T.free.length=c0
 d:s.T.D.length=1
 rb:s.T.ρ b=8
 rx:s.T.ρ bx=9
 bx:W.heap[bx]?=some (.cells #[.pointer (some ⟨tt,0,none⟩)] 31)
 st:(s.n < 2∧MTw w0 W s.T Y C k pt∧W.heap[b]?=some (.cells #[.int .i64 s.n] 3))∨(2≤s.n∧MGn w0 W s.T∧∃ x:Int,W.heap[b]?=some (.cells #[.int .i64 x] 3))
section
variable {w0 w W W':World} {t A p b bx c0 k pt:Nat} {C:Cont Str} {Y:List Ly} {s:LS} {T:TS} {S rs:List Nat} {ρ ρ':Nat→Nat}
theorem kp_ru (h:RU rs W W' ρ ρ') (h0:0∉rs):Kp ρ ρ' W W':=⟨h.os,h.tape,h.output,h.size,fun q hq hz=>⟨h.block q hq (by rw [hz];exact h0),by rw [h.role q hq];exact hz⟩⟩
theorem StL.ro (h:StL w0 t A p b bx c0 C k pt Y s W):Ro w0 W s.T.ρ:=by
 rcases h.st with ⟨_,h1,_⟩ | ⟨_,h1,_⟩
 ·exact h1.mf.am.bw.ro
 ·exact h1.bw.ro
theorem MTw.ruO (h:MTw w0 W T Y C k pt) (hu:RU rs W W' T.ρ T.ρ) (hr:∀ r,r∈rs→6≤r∧r≤9):MTw w0 W' T Y C k pt:=h.on (h.mf.am.ru hu hr)
theorem MGn.ruO (h:MGn w0 W T) (hu:RU rs W W' T.ρ T.ρ) (hr:∀ r,r∈rs→6≤r∧r≤9):MGn w0 W' T:=by
 obtain ⟨r1,r2,hk⟩:=h.blk
 exact ⟨h.bw.ru hu (fun r hm=>by have:=hr r hm;omega),h.hd,h.ta,h.tc,h.rol,⟨r1,r2,hu.heap hk (by rw [h.rol];exact fun hm=>by have:=hr 4 hm;omega)⟩,h.emp,h.cnt⟩
theorem StL.wr (h:StL w0 t A p b bx c0 C k pt Y s W) (hu:Upd S W W') (hS:∀ q,q∈S→w0.heap.size≤q∧s.T.ρ q=0):StL w0 t A p b bx c0 C k pt Y s W':=by
 have hb:b∉S:=fun hm=>by have:=(hS b hm).2;rw [h.rb] at this;cases this
 have hx:bx∉S:=fun hm=>by have:=(hS bx hm).2;rw [h.rx] at this;cases this
 refine ⟨h.t,h.a,h.p,h.c,h.d,h.rb,h.rx,hu.heap h.bx hx,?_⟩
 rcases h.st with ⟨h1,h2,h3⟩ | ⟨h1,h2,x,h3⟩
 ·exact .inl ⟨h1,h2.on (h2.mf.am.own0 hu hS),hu.heap h3 hb⟩
 ·exact .inr ⟨h1,h2.own0 hu hS,x,hu.heap h3 hb⟩
theorem StL.get (h:StL w0 t A p b bx c0 C k pt Y s W) (g:Hd):GetAt w0 (VsL Y) s s.T.ρ A g W:=by
 rcases h.st with ⟨h1,h2,h3⟩ | ⟨h1,h2,x,h3⟩
 ·have hm:=h2.mf.am
  by_cases hx:∃ x,x∈s.T.F∧x.1=g
  ·obtain ⟨x,hx,rfl⟩:=hx
   obtain ⟨e,_,_,_,e4,e5⟩:=hm.get hx;refine .inl ⟨by show decide (2≤s.n)=false;rw [decide_eq_false_iff_not];omega,x.2,e,?_,fun W2 S2 hu hS=>⟨⟨s.T.ρ,(hm.own0 hu hS).ok x hx⟩,h2.mf.kd x hx⟩,e4,by rw [← h.a];exact e5⟩;exact h2.mf.fl.mem_iff.1 (List.mem_map.2 ⟨x,hx,rfl⟩)
  ·refine .inr ⟨.inr fun n hn=>?_,fun W2 hW2=>by rw [← h.a];exact hm.dead (fun x h4 h5=>hx ⟨x,h4,h5⟩) W2 hW2⟩
   obtain ⟨x,h4,h5⟩:=List.mem_map.1 (h2.mf.fl.mem_iff.2 hn);injection h5 with h5 _;exact hx ⟨x,h4,h5⟩
 ·exact .inr ⟨.inl (by show decide (2≤s.n)=true;rw [decide_eq_true_iff];exact h1),fun W2 hW2=>by rw [← h.a];exact (h2.bw.below hW2).dead h2.hd h2.ta h2.tc fun e he=>by rw [h2.emp] at he;cases he⟩
theorem known1_cnt {x y:Int} (hx:W.heap[b]?=some (.cells #[.int .i64 x] 3)) (hy:IntKind.i64.wrap (x+1)=y) (h2:y≠2) (ad:Option Addr):Calls Tryz.prog 40 #[.pointer (some ⟨b,0,none⟩),.pointer ad] W fun e W'=>e=.returned (.tuple #[])∧W'=W.setCell ⟨b,0,none⟩ (.int .i64 y):=by
 have k0:W.cell? ⟨b,0,none⟩=some (.int .i64 x):=by rw [cell_of_heap hx];rfl
 have f0:W.frozen? ⟨b,0,none⟩=false:=frozen_of_heap hx _
 have hq:=heap_lt hx
 have hd:(y == 2)=false:=by rw [beq_eq_false_iff_ne];exact h2
 have hd2:decide (y=2)=false:=by rw [decide_eq_false_iff_not];exact h2
 clear hx
 go_enter Tryz.func40,Tryz.ntmps40
 go_wp2_with fail
 go_end0
 exact ⟨rfl,rfl⟩
theorem known1_drop {x : Int} {Q : Ending → World → Prop} (hx : W.heap[b]? = some (.cells #[.int .i64 x] 3)) (hy : IntKind.i64.wrap (x + 1) = 2) (hb : W.heap[bx]? = some (.cells #[.pointer (some ⟨t, 0, none⟩)] 31)) (hne : b ≠ bx)
    (hD:Calls Tryz.prog 41 #[.pointer (some ⟨t,0,none⟩)] (W.setCell ⟨b,0,none⟩ (.int .i64 2)) Q) (hQ:∀ e W',Q e W'→e=.returned (.tuple #[])):Calls Tryz.prog 40 #[.pointer (some ⟨b,0,none⟩),.pointer (some ⟨bx,0,none⟩)] W Q:=by
 have k0:W.cell? ⟨b,0,none⟩=some (.int .i64 x):=by rw [cell_of_heap hx];rfl
 have f0:W.frozen? ⟨b,0,none⟩=false:=frozen_of_heap hx _
 have hq:=heap_lt hx
 have hx1:W.cell? ⟨bx,0,none⟩=some (.pointer (some ⟨t,0,none⟩)):=by rw [cell_of_heap hb];rfl
 have hqx:=heap_lt hb
 replace hD:=qh hD
 replace hQ:=qh hQ
 clear hx hb
 go_enter Tryz.func40,Tryz.ntmps40
 go_wp2_with fail
 refine hD.out.mono ?_
 intro e W' h
 have h2:=hQ.out e W' h
 subst h2
 replace h:=qh h
 clear hD hQ
 go_wp2_with fail
 go_end0
 exact h.out
theorem StL.call (h : StL w0 t A p b bx c0 C k pt Y s W) (hYl : (flat Y).length ≤ 100000) : Calls Tryz.prog 40 #[.pointer (some ⟨b, 0, none⟩), .pointer (some ⟨bx, 0, none⟩)] W fun e W' =>
    e=.returned (.tuple #[])∧∃ s',(To (VsL Y) s s'∧(VsL Y).lb s s')∧((VsL Y).free=true∨(VsL Y).cnt s'≤(VsL Y).cnt s+1)∧StL w0 t A p b bx c0 C k pt Y s' W'∧Kp s.T.ρ s'.T.ρ W W':=by
 have hne:b≠bx:=fun e=>by have:=h.rb;rw [e,h.rx] at this;cases this
 have hro:=h.ro
 have hset:∀ y:Int,RU [8] W (W.setCell ⟨b,0,none⟩ (.int .i64 y)) s.T.ρ s.T.ρ:=fun y=>RU.upd hro ((Upd.refl [b] W).setCell (p:=⟨b,0,none⟩) (by simp) _) (fun q hq _=>by rw [List.mem_singleton.1 hq];simp [h.rb])
 have hbx:∀ y:Int,(W.setCell ⟨b,0,none⟩ (.int .i64 y)).heap[bx]?=some (.cells #[.pointer (some ⟨t,0,none⟩)] 31):=fun y=>(hset y).heap h.bx (by rw [h.rx];simp)
 have hself:∀ x y:Int,W.heap[b]?=some (.cells #[.int .i64 x] 3)→(W.setCell ⟨b,0,none⟩ (.int .i64 y)).heap[b]?=some (.cells #[.int .i64 y] 3):=fun x y hx=>by rw [heap_self,hx];rfl
 rcases h.st with ⟨h1,h2,h3⟩ | ⟨h1,h2,x,h3⟩
 ·have hs:s.n=0∨s.n=1:=by omega
  rcases hs with hs | hs
  ·rw [hs] at h3
   refine (known1_cnt h3 (show IntKind.i64.wrap (((0:Nat):Int)+1)=1 by decide) (by decide) _).mono ?_;rintro e W' ⟨rfl,rfl⟩;refine ⟨rfl,⟨1,s.T⟩,⟨vsl_to (by show s.n≤1;omega),.inl (by show s.n < 1;omega)⟩,.inl rfl,⟨h.t,h.a,h.p,h.c,h.d,h.rb,h.rx,hbx 1,.inl ⟨by show 1 < 2;omega,h2.ruO (hset 1) (by simp),hself _ _ h3⟩⟩,kp_ru (hset 1) (by simp)⟩
  ·rw [hs] at h3
   have h2':=h2.ruO (hset 2) (by simp);have hD:=h2'.mf.am.drop handsM (by have:=h2'.mf.fl.length_eq;rw [List.length_map] at this;rw [this];exact hYl);rw [h.t] at hD;refine (known1_drop h3 (show IntKind.i64.wrap (((1:Nat):Int)+1)=2 by decide) h.bx hne hD fun e W' hE=>hE.1).mono ?_;rintro e W' ⟨rfl,T',hG,hev,hc⟩;have hru:=hev.ru;have e0:∀ q,q < W.heap.size→T'.ρ q=s.T.ρ q:=fun q hq=>hru.role q (Nat.lt_of_lt_of_le hq (hset 2).size)
   have hr8:(8:Nat)∉[1,2,3,4,10+3*s.T.i,12+3*s.T.i]:=by simp;omega
   have hr9:(9:Nat)∉[1,2,3,4,10+3*s.T.i,12+3*s.T.i]:=by simp;omega
   refine ⟨rfl,⟨2,T'⟩,⟨vsl_to (by show s.n≤2;omega),.inr (by show 2≤2;omega)⟩,.inl rfl,⟨hev.t.trans h.t,hev.a.trans h.a,by show T'.P.1=p;rw [hev.P];exact h.p,hev.fl.trans h.c,hev.dl.trans h.d,?_,?_,?_,.inr ⟨by show 2≤2;omega,hG,2,?_⟩⟩,?_⟩
   ·show T'.ρ b=8
    rw [e0 b (heap_lt h3)];exact h.rb
   ·show T'.ρ bx=9
    rw [e0 bx (heap_lt h.bx)];exact h.rx
   ·exact hru.heap (hbx 2) (by rw [h.rx];exact hr9)
   ·exact hru.heap (hself _ 2 h3) (by rw [h.rb];exact hr8)
   ·exact (kp_ru (hset 2) (by simp)).trans (kp_ru hru (by simp;omega))
 ·obtain ⟨y,hy⟩:∃ y,y=IntKind.i64.wrap (x+1):=⟨_,rfl⟩
  have hG:=h2.ruO (hset y) (by simp);have hfin:StL w0 t A p b bx c0 C k pt Y s (W.setCell ⟨b,0,none⟩ (.int .i64 y)):=⟨h.t,h.a,h.p,h.c,h.d,h.rb,h.rx,hbx y,.inr ⟨h1,hG,y,hself _ _ h3⟩⟩
  have hend:∃ s',(To (VsL Y) s s'∧(VsL Y).lb s s')∧((VsL Y).free=true∨(VsL Y).cnt s'≤(VsL Y).cnt s+1)∧StL w0 t A p b bx c0 C k pt Y s' (W.setCell ⟨b,0,none⟩ (.int .i64 y))∧Kp s.T.ρ s'.T.ρ W (W.setCell ⟨b,0,none⟩ (.int .i64 y)) :=
   ⟨s,⟨vsl_to (Nat.le_refl _),.inr h1⟩,.inl rfl,hfin,kp_ru (hset y) (by simp)⟩
  by_cases h2y:y=2
  ·rw [h2y] at hG hend
   have hD:=hG.drop;rw [h.t] at hD;refine (known1_drop h3 (hy.symm.trans h2y) h.bx hne hD fun e W' hE=>hE.1).mono ?_;rintro e W' ⟨rfl,rfl⟩;exact ⟨rfl,hend⟩
  ·refine (known1_cnt h3 hy.symm h2y _).mono ?_
   rintro e W' ⟨rfl,rfl⟩;exact ⟨rfl,hend⟩
theorem lateV (hs:SaneY Y) (hc:MCt Y C) (hYl:(flat Y).length≤100000):VisM w0 (VsL Y) t A 40 #[] #[.pointer (some ⟨b,0,none⟩),.pointer (some ⟨bx,0,none⟩)] (fun s W=>StL w0 t A p b bx c0 C k pt Y s W) (fun s=>s.T.ρ) 0 where
 ok:=vsl_ok hs hc
 ro:=fun _ _ h=>h.ro
 wr:=fun _ _ _ _ h hu hS=>h.wr hu hS
 tree:=fun s W h=>by
  rw [← h.t,← h.a];rcases h.st with ⟨_,h2,_⟩ | ⟨_,h2,_⟩
  ·exact h2.mf.am.cells.2.1
  ·obtain ⟨_,_,c,_⟩:=h2.cells
   exact c
 root:=fun s W h=>by
  rw [← h.t];rcases h.st with ⟨_,h2,_⟩ | ⟨h1,h2,_⟩
  ·exact ⟨s.T.r,h2.mf.am.cells.2.2.1,h2.mf.am.cells.2.2.2.1,fun _=>h2.ro⟩
  ·obtain ⟨r1,r2,_,c2,c3,_⟩:=h2.cells
   exact ⟨(r1,r2),c2,c3,fun hg=>by
    have hg':decide (2≤s.n)=false:=hg;rw [decide_eq_false_iff_not] at hg'
    exact absurd h1 hg'⟩
 enter:=enters_of Tryz.func40 (by kernel_rfl) rfl
 call:=fun _ _ h _=>h.call hYl
 get:=fun _ _ g h=>h.get g
theorem StL.late (h : StL w0 t A p b bx c0 C k pt Y ⟨0, T⟩ W) (hk : k ≤ 1000) (hpt : pt ≤ 100000) (hYl : (flat Y).length ≤ 100000) (key : Str) (hks : key.size ≤ 100000000) {l : Ly} (hl : l ∈ Y) (hp : l.pre = (bl key).take 8) (hlt : 8 < (bl key).length) :
    Calls Tryz.prog 15 #[.pointer (some ⟨t,0,none⟩),.string key,.func (.func 40) #[] #[.pointer (some ⟨b,0,none⟩),.pointer (some ⟨bx,0,none⟩)]] W fun e W' =>
     e=.returned (.tuple #[.string ⟨#[]⟩,.bool false,.bool true])∧∃ T',MGn w0 W' T'∧T'.t=t∧T'.P.1=p∧T'.free.length=c0∧T'.D.length=1∧W'.heap[bx]?=some (.cells #[.pointer (some ⟨t,0,none⟩)] 31):=by
 have h2:MTw w0 W T Y C k pt:=by
  rcases h.st with ⟨_,h2,_⟩ | ⟨h1,_⟩
  ·exact h2
  ·exact absurd (show 2≤0 from h1) (by omega)
 have hTr:=h2.tr hk hpt
 refine ((lateV (w0:=w0) (t:=t) (A:=A) (p:=p) (b:=b) (bx:=bx) (c0:=c0) (k:=k) (pt:=pt) hTr.sane hTr.ct hYl).rdr.get (s:=⟨0,T⟩) (N:=0) key hks h (.inl rfl) (.inl rfl)).mono ?_
 rintro e W' ⟨s',_,hS,_,_,hc⟩
 rcases hc with ⟨hg,rfl⟩ | ⟨hg,o,⟨_,i,l2,hO,hnd,hlb⟩,_⟩
 ·have hg':decide (2≤s'.n)=true:=hg
  rw [decide_eq_true_iff] at hg';rcases hS.st with ⟨h4,_⟩ | ⟨_,h5,_⟩
  ·omega
  ·exact ⟨rfl,s'.T,h5,hS.t,hS.p,hS.c,hS.d,hS.bx⟩
 ·exfalso
  have hg':decide (2≤s'.n)=false:=hg;rw [decide_eq_false_iff_not] at hg';rcases Nat.eq_zero_or_pos i with rfl | hi
  ·have hO1:On Y key 1 l:=⟨hl,hp,.inr (by omega)⟩
   obtain ⟨l3,s3,q1,q2,q3⟩:=hO1.chain hTr.sane.ok 0 (by omega);rw [q1.uniq hTr.sane.ok hO] at q2;have:=hnd s3 q2;rw [q3] at this
   cases this
  ·obtain ⟨s1,b1,b2⟩:=hlb hi
   have c1:(0:Nat) < s1.n∨2≤s1.n:=b1;have c2:s1.n < s'.n∨2≤s'.n:=b2;omega
end
end Go.Proofs.YtbdealmkmpnpoaaGreat.M
