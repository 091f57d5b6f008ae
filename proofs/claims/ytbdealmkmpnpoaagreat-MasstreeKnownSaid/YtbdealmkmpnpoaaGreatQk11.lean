import Derived.Lib.SliceRun
import Derived.Deep.RegionLaw
import Derived.Laws.MakeOwn
import Derived.Test.YtbdealmkmpnpoaaGreatQk01
import Derived.Test.YtbdealmkmpnpoaaGreatQk02
import Derived.Test.YtbdealmkmpnpoaaGreatQk03
import Derived.Test.YtbdealmkmpnpoaaGreatQk04
import Derived.Test.YtbdealmkmpnpoaaGreatQk05
import Derived.Test.YtbdealmkmpnpoaaGreatQk06
import Derived.Test.YtbdealmkmpnpoaaGreatQk07
import Derived.Test.YtbdealmkmpnpoaaGreatQk08
import Derived.Test.YtbdealmkmpnpoaaGreatQk09
import Derived.Test.YtbdealmkmpnpoaaGreatQk10
set_option linter.all false
namespace Go.Proofs.YtbdealmkmpnpoaaGreat.M
open Go.RowKit
abbrev zS (W:World) (t A HB NB:Nat) (h1 nx:Hd):Prop:=W.cell? ⟨t,1,none⟩=some (.pointer (some ⟨A,0,none⟩))∧W.heap[HB]?=some (.cells #[.int .i64 h1.1,.int .u64 h1.2] 71)∧W.heap[NB]?=some (.cells #[.int .i64 nx.1,.int .u64 nx.2] 71)
section
variable {w0 w w' W W':World} {T T1 T2 T':TS} {G G' Z:List (Hd×BN Sl)} {hh:Hd} {m n:BN Sl} {q b:Nat} {x:ND}
theorem mem_fset' {F:NF} {h:Hd} {x:ND} {z:Hd×ND} (hz:z∈fset F h x):z=(h,x)∨z∈F:=by
 unfold fset at hz
 obtain ⟨y,hy,rfl⟩:=List.mem_map.1 hz
 split
 ·rename_i e;left;rw [e]
 ·exact .inr hy
theorem MF.set (hM:MF w0 w T ((hh,m)::G)) (hA:AM w0 w' T') (hF:T'.F=fset T.F hh x) (hk:(∃ f,x.k=.leaf f)∨∃ b,x.k=.inn b):MF w0 w' T' ((hh,x.bn)::G):=by
 obtain ⟨z,hz,hzx⟩:=hM.mem.1 (List.mem_cons_self ..)
 obtain ⟨z1,z2⟩:=z
 injection hzx with h1 h2
 simp only at h1 h2
 subst h1
 refine ⟨hA,?_,fun y hy=>?_⟩
 ·rw [hF]
  exact fset_bn hM.am.ndf hz h2 hM.fl
 ·rw [hF] at hy
  rcases mem_fset' hy with rfl | hy
  ·exact hk
  ·exact hM.kd y hy
theorem MF.app (hM:MF w0 w T G) (hA:AM w0 w' T') (hF:T'.F=T.F++[(hh,x)]) (hk:(∃ f,x.k=.leaf f)∨∃ b,x.k=.inn b):MF w0 w' T' ((hh,x.bn)::G):=by
 refine ⟨hA,?_,fun y hy=>?_⟩
 ·rw [hF,List.map_append]
  exact (List.perm_append_comm).trans ((hM.fl).cons _)
 ·rw [hF] at hy
  rcases List.mem_append.1 hy with hy | hy
  ·exact hM.kd y hy
  ·rw [List.mem_singleton.1 hy];exact hk
theorem MF.on (hM:MF w0 w T G) (hA:AM w0 w' T):MF w0 w' T G:=⟨hA,hM.fl,hM.kd⟩
theorem MF.same (hM:MF w0 w T G) (hA:AM w0 w' T') (hF:T'.F=T.F):MF w0 w' T' G:=⟨hA,by rw [hF];exact hM.fl,by rw [hF];exact hM.kd⟩
theorem MF.ent (hM:MF w0 w T G) {z:Hd×BN Sl} (hz:z∈G):∃ q n,(z.1,n)∈T.F∧n.bn=z.2∧EntAt T z.1 q∧((∃ f,n.k=.leaf f)∨∃ b,n.k=.inn b):=by
 obtain ⟨y,hy,rfl⟩:=hM.mem.1 hz
 obtain ⟨q,hq,_⟩:=hM.am.getE (x:=y.2) (h:=y.1) hy
 exact ⟨q,y.2,hy,rfl,hq,hM.kd y hy⟩
theorem kd_inn {x:ND} (h:(∃ f,x.k=.leaf f)∨∃ b,x.k=.inn b) (hl:x.bn.leaf=false):x.k=.inn x.bn:=by
 rcases h with ⟨f,hf⟩ | ⟨b,hb⟩
 ·exfalso
  have e:x.bn=f.bn:=by unfold ND.bn;rw [hf]
  rw [e] at hl
  cases hl
 ·have e:x.bn=b:=by unfold ND.bn;rw [hb]
  rw [hb,e]
theorem kd_leaf {x:ND} (h:(∃ f,x.k=.leaf f)∨∃ b,x.k=.inn b) (hl:x.bn.leaf=true) (hb:∀ b,x.k=.inn b→b.leaf=false):∃ f,x.k=.leaf f∧x.bn=f.bn:=by
 rcases h with ⟨f,hf⟩ | ⟨b,hb2⟩
 ·exact ⟨f,hf,by unfold ND.bn;rw [hf]⟩
 ·exfalso
  have e:x.bn=b:=by unfold ND.bn;rw [hb2]
  rw [e,hb b hb2] at hl
  cases hl
def SplitF (w0 w:World) (T:TS) (hh:Hd) (m:BN Sl) (G:List (Hd×BN Sl)) (e:Ending) (w':World):Prop :=
 ∃ (nx:Hd) (T':TS),e=.returned (.tuple #[.string m.sep,hV nx])∧MF w0 w' T' ((hh,m.left nx)::(nx,m.rightHalf)::G)∧TEv w w' T T'∧T'.n=T.n∧T'.ly=T.ly∧T'.r=T.r∧T'.free.count true+1=T.free.count true
theorem MF.split (hM : MF w0 w T ((hh, m) :: G)) (hq : EntAt T hh q) (hfr : true ∈ T.free) (h3 : 3 ≤ m.keys.length) :
    Calls Tryz.prog 115 #[.pointer (some ⟨T.t,0,none⟩),.pointer (some ⟨q,1,none⟩)] w (SplitF w0 w T hh m G):=by
 obtain ⟨z,hz,hzx⟩:=hM.mem.1 (List.mem_cons_self ..)
 obtain ⟨z1,z2⟩:=z
 injection hzx with h1 h2
 simp only at h1 h2
 subst h1
 have hgo:Calls Tryz.prog 115 #[.pointer (some ⟨T.t,0,none⟩),.pointer (some ⟨q,1,none⟩)] w (SplitE w0 w T z1 m):=by
  rcases hM.kd _ hz with ⟨f,hf⟩ | ⟨b,hb⟩
  ·have e:z2.bn=f.bn:=by unfold ND.bn;rw [hf]
   have hl:=((hM.am.ok _ hz).lf f hf).1;rw [← h2,e] at h3 ⊢;rw [hl.klen] at h3;exact hM.am.splitLf hz hf hq hfr (by omega)
  ·have e:z2.bn=b:=by unfold ND.bn;rw [hb]
   rw [← h2,e] at h3 ⊢;exact hM.am.splitIn hz hb hq hfr h3
 refine hgo.mono ?_
 rintro e w' ⟨nx,T',nl,nr,bo,hnx,rfl,hA,hE,hF,hl,hr,kl,kr,a1,a2,a3,a4⟩
 have hnd:((T.F++[(nx,rawN bo)]).map (·.1)).Nodup:=by
  have:=hA.ndf;rw [hF,fset_fst,fset_fst] at this;exact this
 have hm2:(nx,rawN bo)∈fset (T.F++[(nx,rawN bo)]) z1 nl:=(mem_fset ⟨z2,List.mem_append_left _ hz⟩).2 (.inr ⟨fun e=>hnx _ hz e.symm,by simp⟩)
 refine ⟨nx,T',rfl,⟨hA,?_,fun y hy=>?_⟩,hE,a1,a2,a3,a4⟩
 ·have p1 : ((T.F ++ [(nx, rawN bo)]).map fun x => (x.1, x.2.bn)).Perm ((z1, m) :: (nx, lf0) :: G) := by
    rw [List.map_append];exact (List.perm_append_comm).trans (((hM.fl).cons _).trans (List.Perm.swap _ _ _))
  have p2:=fset_bn (x:=nl) hnd (List.mem_append_left _ hz) h2 p1;have hnd2:((fset (T.F++[(nx,rawN bo)]) z1 nl).map (·.1)).Nodup:=by rw [fset_fst];exact hnd
  have p3:=fset_bn (x:=nr) hnd2 hm2 rfl (p2.trans (List.Perm.swap _ _ _));rw [hF];rw [hl,hr] at p3;exact p3.trans (List.Perm.swap _ _ _)
 ·rw [hF] at hy
  rcases (mem_fset ⟨_,hm2⟩).1 hy with rfl | ⟨hne,hy⟩
  ·exact kr
  ·rcases mem_fset' hy with rfl | hy
   ·exact kl
   ·rcases List.mem_append.1 hy with hy | hy
    ·exact hM.kd y hy
    ·exact absurd (by rw [List.mem_singleton.1 hy]) hne
end
section
variable {β:Type}
theorem flat2 {Ls : List (Lev β)} {j : Nat} {A B A' B' : Lev β} {x y : Hd × BN β} (hS : Ls[j]? = some (A ++ x :: B)) (hR : Ls[j + 1]? = some (A' ++ y :: B')) :
    ∃ X Y W1 W2,Ls.flatten=X++x::Y∧X++Y=W1++y::W2∧∀ l1 l2 y',(y'::l1::l2::(W1++W2)).Perm ((Ls.set j (A++l1::l2::B)).set (j+1) (A'++y'::B')).flatten:=by
 obtain ⟨hj,e1⟩:=List.getElem?_eq_some_iff.1 hR
 obtain ⟨hj0,e0⟩:=List.getElem?_eq_some_iff.1 hS
 have h1:Ls=Ls.take j++(A++x::B)::(A'++y::B')::Ls.drop (j+2):=by
  rw [← e1,← e0,← List.drop_eq_getElem_cons hj,← List.drop_eq_getElem_cons hj0,List.take_append_drop]
 have hlen:(Ls.take j).length=j:=by simp;omega
 generalize Ls.take j=T at *
 generalize Ls.drop (j+2)=U at *
 subst h1
 refine ⟨T.flatten++A,B++(A'++y::B')++U.flatten,T.flatten++A++B++A',B'++U.flatten,by simp,by simp,fun l1 l2 y'=>?_⟩
 have h2:((T++(A++x::B)::(A'++y::B')::U).set j (A++l1::l2::B)).set (j+1) (A'++y'::B')=T++(A++l1::l2::B)::(A'++y'::B')::U:=by
  rw [List.set_append_right _ _ (by omega),List.set_append_right _ _ (by omega),hlen];simp
 rw [h2]
 simp only [List.flatten_append,List.flatten_cons]
 have h3:(T.flatten++(A++l1::l2::B++(A'++y'::B'++U.flatten)))=(T.flatten++A)++l1::l2::(B++(A'++y'::(B'++U.flatten))):=by simp
 rw [h3]
 refine List.Perm.symm ((List.perm_middle).trans ?_)
 refine (List.Perm.cons _ List.perm_middle).trans ?_
 have h4:(T.flatten++A++(B++(A'++y'::(B'++U.flatten))))=(T.flatten++A++B++A')++y'::(B'++U.flatten):=by simp
 rw [h4]
 refine (List.Perm.cons _ (List.Perm.cons _ List.perm_middle)).trans ?_
 exact (List.Perm.cons _ (List.Perm.swap _ _ _)).trans (List.Perm.swap _ _ _)
theorem flat1 {Ls : List (Lev β)} {j : Nat} {x : Hd × BN β} (hj1 : j + 1 = Ls.length) (hS : Ls[j]? = some [x]) :
    ∃ X Y,Ls.flatten=X++x::Y∧∀ l1 l2 tp:Hd×BN β,(tp::l1::l2::(X++Y)).Perm (Ls.set j [l1,l2]++[[tp]]).flatten:=by
 obtain ⟨hj0,e0⟩:=List.getElem?_eq_some_iff.1 hS
 have h1:Ls=Ls.take j++[[x]]:=by
  have:Ls.drop (j+1)=[]:=List.drop_eq_nil_of_le (by omega);rw [← e0,← this,← List.drop_eq_getElem_cons hj0,List.take_append_drop]
 have hlen:(Ls.take j).length=j:=by simp;omega
 generalize Ls.take j=T at *
 subst h1
 refine ⟨T.flatten,[],by simp,fun l1 l2 tp=>?_⟩
 rw [List.set_append_right _ _ (by omega),hlen]
 simp only [Nat.sub_self,zs2,List.flatten_append,List.flatten_cons,List.flatten_nil,List.append_nil]
 refine List.Perm.symm ?_
 refine (List.perm_append_comm (l₁:=T.flatten++[l1,l2]) (l₂:=[tp])).trans ?_
 exact List.Perm.cons _ (List.perm_append_comm (l₁:=T.flatten) (l₂:=[l1,l2]))
theorem pathOf_hdl {Ls:List (Lev β)} {key:Str} {j:Nat} (hj:j < Ls.length):(pathOf Ls key)[Ls.length - 1 - j]?=some (hdl key (Ls.getD j [])):=by
 unfold pathOf
 rw [List.getElem?_reverse (by simp;omega)]
 simp only [List.length_map]
 rw [show Ls.length - 1 - (Ls.length - 1 - j)=j by omega,List.getElem?_map,List.getD_eq_getElem?_getD,List.getElem?_eq_getElem hj]
 rfl
end
structure TSame (T1 T2:TS):Prop where
 F:T2.F=T1.F
 n:T2.n=T1.n
 ly:T2.ly=T1.ly
 r:T2.r=T1.r
 free:T2.free=T1.free
theorem TSame.trans {T1 T2 T3:TS} (h:TSame T1 T2) (k:TSame T2 T3):TSame T1 T3:=⟨k.F.trans h.F,k.n.trans h.n,k.ly.trans h.ly,k.r.trans h.r,k.free.trans h.free⟩
theorem TSame.refl (T:TS):TSame T T:=⟨rfl,rfl,rfl,rfl,rfl⟩
structure Sb (W:World) (T:TS) (b:Nat) (o:Obj):Prop where
 is:W.heap[b]?=some o
 r:T.ρ b=5
section
variable {w0 w W W':World} {T T1 T2:TS} {L:List (Nat×Obj)} {b:Nat} {o:Obj}
theorem Sb.ev (h:Sb W T1 b o) (k:TEv W W' T1 T2):Sb W' T2 b o:=⟨k.ru.heap h.is (by rw [h.r];simp;omega),by rw [k.ru.role _ (heap_lt h.is)];exact h.r⟩
theorem MS.slice (hS:MS w0 w T W T1 L) (o:Obj):∃ T2,MS w0 w T (W.alloc o) T2 L∧TEv W (W.alloc o) T1 T2∧TSame T1 T2∧Sb (W.alloc o) T2 W.heap.size o:=by
 have hb:Below W.heap.size W (W.alloc o):=(Below.refl _ _).alloc (Nat.le_refl _) o
 obtain ⟨a,e⟩:=hS.am.marks hb [W.heap.size] (fun q hq=>by rw [List.mem_singleton.1 hq];simp)
 exact ⟨_,hS.call a e,e,⟨rfl,rfl,rfl,rfl,rfl⟩,heap_alloc_new _ _,mkN_new (Nat.le_refl _) (by simp)⟩
end
theorem root_ok (sep:Str) (h nx:Hd):NodeOK s0 (newRoot sep h nx:BN Sl) :=
 ⟨List.pairwise_singleton _ _,fun k _=>sle_s0 k,fun k _=>rfl,fun _=>rfl,fun e=>(by cases e),fun _=>⟨rfl,rfl⟩,fun e=>(by cases e)⟩
theorem cov_of {f:LF} {m:Mk} (h:LFOK f) (hm:MkOK m) (hc:f.bn.covers (mT m)=true):f.cov m=true:=by
 unfold LF.cov
 have hc':(!f.bnd || slt (mT m) (if f.bnd then mT f.hi else s0))=true:=hc
 have hh:=h.hi
 cases hb:f.bnd
 ·rfl
 ·rw [hb,if_pos rfl] at hh
  rw [hb] at hc';simp only [Bool.not_true,Bool.false_or,if_true] at hc' ⊢;rw [lt_slt hm hh];exact hc'
def icRoot (b1 b2:Nat):List Value:=[.bool false,.slice (some ⟨b1,0,none⟩) 1 1,.slice none 0 0,.slice (some ⟨b2,0,none⟩) 2 2,.string ⟨#[]⟩,.bool false,.int .i64 0,.int .u64 0]
theorem icRoot_in {W:World} {b1 b2:Nat} {sep:Str} {h nx:Hd} (h1:W.heap[b1]?=some (.cells #[.string sep] 9)) (h2:W.heap[b2]?=some (.cells #[.int .i64 h.1,.int .u64 h.2,.int .i64 nx.1,.int .u64 nx.2] 71)):InC W [b1,b2] (icRoot b1 b2) (down (newRoot sep h nx)):=by
 refine ⟨some ⟨b1,0,none⟩,none,some ⟨b2,0,none⟩,1,0,2,rfl,⟨⟨by simp [down,newRoot],by omega,.inr ⟨b1,0,rfl,fun _=>heap_lt h1,fun i x hx j y hy=>?_⟩⟩,⟨Nat.le_refl _,by omega,.inl ⟨rfl,rfl⟩⟩,⟨by simp [down,newRoot],by omega,.inr ⟨b2,0,rfl,fun _=>heap_lt h2,fun i x hx j y hy=>?_⟩⟩⟩,rfl⟩
 ·cases i with
  | zero =>
   injection hx with hx;subst hx
   cases j with
   | zero=>injection hy with hy;subst hy;rw [cell_of_heap h1];rfl
   | succ j=>simp [scell] at hy
  | succ i=>simp [down,newRoot] at hx
 ·rcases i with _ | _ | i
  ·injection hx with hx
   subst hx;rcases j with _ | _ | j
   ·injection hy with hy;subst hy;rw [cell_of_heap h2];rfl
   ·injection hy with hy;subst hy;rw [cell_of_heap h2];rfl
   ·simp [hcel] at hy
  ·injection hx with hx
   subst hx;rcases j with _ | _ | j
   ·injection hy with hy;subst hy;rw [cell_of_heap h2];rfl
   ·injection hy with hy;subst hy;rw [cell_of_heap h2];rfl
   ·simp [hcel] at hy
  ·simp [down,newRoot] at hx
def UpOK (Z:List (Hd×BN Sl)) (up:Hd) (mk:Mk):Prop:=∃ nlp Z',Z.Perm ((up,nlp)::Z')∧nlp.leaf=true∧nlp.covers (mT mk)=true∧hasK (mT mk) nlp.keys=true∧MkOK mk∧mk.c=9
def SetF (w0 w:World) (T:TS) (Ls0:List (Lev Sl)) (C:Cont Sl) (r:Hd) (Z:List (Hd×BN Sl)) (i:Nat) (up:Hd) (mk:Mk) (W:World):Prop :=
 ∃ (T':TS) (Ls':List (Lev Sl)) (r':Hd),TEv w W T T'∧T'.n=T.n∧T'.ly=T.ly∧(LvOK Ls0 Ls' C r'∧(Fat Ls0→Fat Ls')) ∧
  ((r'=r∧T'.r=T.r∧MF w0 W T' (Ls'.flatten++Z))∨(i=0∧T'.r=r'∧MF w0 W T' (Ls'.flatten++Z)) ∨
   (i≠0∧T'.r=T.r∧∃ nlp Z',Z.Perm ((up,nlp)::Z')∧nlp.leaf=true∧MF w0 W T' (Ls'.flatten++(up,nlp.put (mT mk) ⟨mk,s0,s0,true,r'⟩)::Z')))
structure SI (w0 W:World) (T T1:TS) (Ls0:List (Lev Sl)) (key:Str) (C:Cont Sl) (r:Hd) (Z:List (Hd×BN Sl)) (j:Nat) (hh:Hd) (m:BN Sl) (A B:Lev Sl) (Ls:List (Lev Sl)):Prop where
 mf:MF w0 W T1 (Ls.flatten++Z)
 pi:PutI Ls0 key C r j hh m A B Ls
 room:m.keys.length=cap j+1→1+needOf (j+1) (Ls0.drop (j+1)) key≤T1.free.count true
 n:T1.n=T.n
 ly:T1.ly=T.ly
 r:T1.r=T.r
section
variable {w0 w W:World} {T T1:TS} {Ls0 Ls:List (Lev Sl)} {key:Str} {C:Cont Sl} {r hh up:Hd} {mk:Mk} {Z:List (Hd×BN Sl)} {i j:Nat} {m:BN Sl} {A B:Lev Sl}
theorem SI.fin (h:SI w0 W T T1 Ls0 key C r Z j hh m A B Ls) (hE:TEv w W T T1) (h4:m.keys.length≤cap j):SetF w0 w T Ls0 C r Z i up mk W :=
 ⟨T1,Ls,r,hE,h.n,h.ly,⟨⟨h.pi.tow,h.pi.thk,h.pi.fin h4,h.pi.con,by have:=h.pi.lvs;omega,h.pi.top,h.pi.evo⟩,h.pi.fat⟩,.inl ⟨rfl,h.r,h.mf⟩⟩
end
set_option maxRecDepth 100000 in
set_option maxHeartbeats 3000000 in
theorem MF.settle {w0 w : World} {T : TS} {Ls0 Ls : List (Lev Sl)} {key : Str} {C : Cont Sl} {r hh up : Hd} {mk : Mk} {Z : List (Hd × BN Sl)} {i : Nat} {m : BN Sl} {A0 B0 : Lev Sl} (hI : SI w0 w T T Ls0 key C r Z 0 hh m A0 B0 Ls) (hs0 : Slim Ls0) {pa pc base : Nat} {po : Obj}
    (hpo:w.heap[pa]?=some po) (hpr:T.ρ pa=0) (hrow:∀ W:World,W.heap[pa]?=some po→Row base 71 2 hcel W (.slice (some ⟨pa,0,none⟩) Ls0.length pc) (pathOf Ls0 key)) (hL1:Ls0.length≤1000) (hi:i≤100000000) (hup:i≠0→UpOK Z up mk) :
    Calls Tryz.prog 69 #[.pointer (some ⟨T.t,0,none⟩),.agg #[.int .i64 ((i:Nat):Int),.slice (some ⟨pa,0,none⟩) Ls0.length pc,.int .i64 up.1,.int .u64 up.2,.int .u64 ((mk.s:Nat):Int),.int .u8 ((mk.c:Nat):Int)]] w fun e w'=>e=.returned (.tuple #[])∧SetF w0 w T Ls0 C r Z i up mk w':=by
 obtain ⟨A,hAe⟩:∃ a,a=T.d.A.a:=⟨_,rfl⟩
 obtain ⟨N,hN⟩:∃ N,N=Ls0.length:=⟨_,rfl⟩
 have hN0:0 < N:=by have:=hI.pi.len;have:=(List.getElem?_eq_some_iff.1 hI.pi.lev).1;omega
 have hplen:=pathOf_len Ls0 key
 rw [← hN] at hrow hL1 hplen ⊢
 obtain ⟨P,hP⟩:∃ P,P=pathOf Ls0 key:=⟨_,rfl⟩
 rw [← hP] at hrow hplen
 have hPk:Hid (∀ W T1 L,MS w0 w T W T1 L→W.heap[pa]?=some po):=qh fun W T1 L hS=>hS.ev.ru.heap hpo (by rw [hpr];simp;omega)
 have hpc:Hid (∀ (W:World) (k:Nat) (g:Hd),W.heap[pa]?=some po→P[k]?=some g→W.cell? ⟨pa,k*2,none⟩=some (.int .i64 g.1)∧W.cell? ⟨pa,k*2+1,none⟩=some (.int .u64 g.2)∧pa < W.heap.size):=qh fun W k g hW hg=>by
  obtain ⟨b',c',ev,_,_,_,_,_,_,hat⟩:=(hrow W hW).at hg;injection ev with ev;injection ev with ev;injection ev with ev;subst ev;exact ⟨hat 0 _ rfl,hat 1 _ rfl,heap_lt hW⟩
 have hPg:Hid (∀ j,j < N→P[N - 1 - j]?=some (hdl key (Ls0.getD j []))):=qh fun j hj=>by rw [hP,hN];exact pathOf_hdl (by omega)
 have hNc:N≤pc:=by
  obtain ⟨b',c',ev,_,_,_,h5,_⟩:=(hrow w hpo).at (hPg.out 0 hN0);injection ev with _ _ ev;rw [hplen] at h5;omega
 have htl:=block_lt_of_cell hI.mf.am.cells.2.1
 have hS0:=(MS.start hI.mf.am).box (.cells #[.int .i64 ((i:Nat):Int),.slice (some ⟨pa,0,none⟩) N pc,.int .i64 up.1,.int .u64 up.2,.int .u64 ((mk.s:Nat):Int),.int .u8 ((mk.c:Nat):Int)] 120)
 obtain ⟨wa,hwa⟩:∃ W,W=w.alloc (.cells #[.int .i64 ((i:Nat):Int),.slice (some ⟨pa,0,none⟩) N pc,.int .i64 up.1,.int .u64 up.2,.int .u64 ((mk.s:Nat):Int),.int .u8 ((mk.c:Nat):Int)] 120):=⟨_,rfl⟩
 rw [← hwa] at hS0
 have hI0:SI w0 wa T T Ls0 key C r Z 0 hh m A0 B0 Ls:=⟨hI.mf.on hS0.am,hI.pi,hI.room,rfl,rfl,rfl⟩
 clear hrow hpo hpr
 obtain ⟨XB,hXB⟩:∃ b,b=w.heap.size:=⟨_,rfl⟩
 rw [← hXB] at hS0
 replace hwa:=qh hwa
 replace hS0:=qh hS0
 replace hAe:=qh hAe
 replace hI:=qh hI
 replace hI0:=qh hI0
 replace hs0:=qh hs0
 replace hN:=qh hN
 replace hP:=qh hP
 replace hup:=qh hup
 replace hplen:=qh hplen
 replace hXB:=qh hXB
 go_enter Tryz.func69,Tryz.ntmps69
 obtain ⟨x6a,x6b,x6c,x6d,x6e,x6f,x6g,x6h⟩:=box6 (hS0.out.nth 0 rfl)
 have hw1:IntKind.i64.wrap ((N:Int) - 1)=((N - 1:Nat):Int):=by rw [show ((N:Int) - 1)=((N - 1:Nat):Int) by omega];exact IntWalk.i64_in _ (by omega)
 go_wp2_with fail
 rw [← hwa.out,← hXB.out]
 go_loopg [4] N (fun gk v wr=>(∃ (k j:Nat) (h1:Hd) (m1:BN Sl) (A1 B1:Lev Sl) (L1:List (Lev Sl)) (T1:TS),gk=k+1∧v=.int .i64 ((k:Nat):Int)∧k+j+1=N∧MS w0 w T wr T1 [(XB,.cells #[.int .i64 ((i:Nat):Int),.slice (some ⟨pa,0,none⟩) N pc,.int .i64 up.1,.int .u64 up.2,.int .u64 ((mk.s:Nat):Int),.int .u8 ((mk.c:Nat):Int)] 120)]∧SI w0 wr T T1 Ls0 key C r Z j h1 m1 A1 B1 L1)∨(gk=0∧v=.int .i64 (-1)∧SetF w0 w T Ls0 C r Z i up mk wr))
 case atStart=>exact .inl ⟨N - 1,0,hh,m,A0,B0,Ls,T,by omega,rfl,by omega,hS0.out,hI0.out⟩
 case round =>
  rcases hrel with ⟨k,j,h1,m1,A1,B1,L1,T1,rfl,rfl,hkj,hS,hI⟩ | ⟨rfl,rfl,hF⟩
  ·skip
   clear hI0 x6a x6b x6c x6d x6e x6f x6g x6h hw1;obtain ⟨⟨lo,hno⟩,hlf⟩:=hI.pi.node;have hle5:=hI.pi.le5;have hmemL:(h1,m1)∈L1.flatten:=mem_flat hI.pi.lev (by simp);obtain ⟨q,nd,hnF,hbn,hq,hkd⟩:=hI.mf.ent (z:=(h1,m1)) (List.mem_append_left _ hmemL);simp only at hnF hbn hq;have hcap:cap (if nd.bn.leaf then 0 else 1)=cap j:=by rw [hbn,hlf];by_cases h0:j=0 <;> simp [h0,cap]
   obtain ⟨fb,hfb⟩:∃ b,b=decide (cap j < m1.keys.length):=⟨_,rfl⟩;have hFu:Hid (∀ W L,MS w0 w T W T1 L→Calls Tryz.prog 114 #[.pointer (some ⟨q,1,none⟩)] W fun e w'=>e=.returned (.bool fb)∧Below W.heap.size W w'):=qh fun W L hS=>by have:=Seen.full (w:=W) (W:=W) (⟨⟨T1.ρ,hS.am.ok _ hnF⟩,hkd⟩:Seen W nd) (hS.am.at hnF hq) (Below.refl _ _);rw [hcap,hbn,← hfb] at this;exact this
   have hGt:Hid (∀ W L,MS w0 w T W T1 L→Calls Tryz.prog 62 #[.pointer (some ⟨A,0,none⟩),.agg #[.int .i64 h1.1,.int .u64 h1.2]] W fun y W'=>y=.returned (.tuple #[.pointer (some ⟨q,1,none⟩),.bool true])∧Below W.heap.size W W'):=qh fun W L hS=>by rw [hAe.out];exact hS.getQ hq
   have hjN:j < N:=by omega
   have hhd:=hI.pi.hdl;have hpk:=hPg.out j hjN;rw [← hhd,show N - 1 - j=k by omega] at hpk;have hkN:k < N:=by omega
   have hki:(k:Int) < (N:Int):=by omega
   have hk0:(0:Int)≤(k:Int):=by omega
   replace hno:=qh hno;replace hlf:=qh hlf;replace hle5:=qh hle5;replace hmemL:=qh hmemL;replace hnF:=qh hnF;replace hbn:=qh hbn;replace hq:=qh hq;replace hkd:=qh hkd;replace hcap:=qh hcap;replace hfb:=qh hfb;replace hhd:=qh hhd;replace hpk:=qh hpk;replace hkj:=qh hkj;replace hI:=qh hI;have hS1:=qh hS;clear hS;obtain ⟨x6a,x6b,x6c,x6d,x6e,x6f,x6g,x6h⟩:=box6 (hS1.out.nth 0 rfl);obtain ⟨k0,k1,kl⟩:=hpc.out _ k h1 (hPk.out _ _ _ hS1.out) hpk.out;go_upto_region 5 with fail;clear x6a x6b x6c x6d x6e x6f x6g x6h k0 k1 kl hk0 hki;have hS2:=hS1.out.box (.cells #[.int .i64 h1.1,.int .u64 h1.2] 71);generalize wr.alloc (.cells #[.int .i64 h1.1,.int .u64 h1.2] 71)=w2 at *;obtain ⟨HB,hHB⟩:∃ b,b=wr.heap.size:=⟨_,rfl⟩;rw [← hHB] at hS2 ⊢;replace hHB:=qh hHB;replace hS2:=qh hS2;have hSd:=hS2.out.drew;refine wp_region_late [] (S:=fun W'=>W'.cell? ⟨T.t,1,none⟩=some (.pointer (some ⟨A,0,none⟩))∧W'.heap[HB]?=some (.cells #[.int .i64 h1.1,.int .u64 h1.2] 71)) rfl (⟨by rw [hAe.out];exact hSd.tree,hSd.nth 0 rfl⟩) (fun hHeld=>?_)
   try dsimp only at hHeld
   refine tkW 0 ?_;refine tkW 1 ?_;refine tkW 2 ?_;refine tkM 3 ?_ (hz:=by rintro w ⟨e1,e2⟩;obtain ⟨b0,b1,bq,bf0,bf1⟩:=box2 e2;exact zf);refine tkM 4 ?_ (hz:=by rintro w ⟨e1,e2⟩;obtain ⟨b0,b1,bq,bf0,bf1⟩:=box2 e2;exact zf);refine rdM 5 ?_;intro K hK;go_simp;go_at_call 62;refine (hGt.out _ _ hSd).mono ?_;rintro z3 w3 ⟨rfl,hb⟩;have hS3:=hSd.below hb;clear hb;have hS1y:w3.cell? ⟨T.t,1,none⟩=some (.pointer (some ⟨A,0,none⟩))∧w3.heap[HB]?=some (.cells #[.int .i64 h1.1,.int .u64 h1.2] 71):=⟨by rw [hAe.out];exact hS3.tree,hS3.nth 0 rfl⟩;replace hS3:=qh hS3;go_wp2_with fail;refine hK.out _ _ (fun _ _=>hS1y) ?_;clear hHeld hK K;have hHeld:=hS1y;clear hS1y
   try simp only [Act.put,zs1,zs2,zs3]
   try simp only [Act.put]
   refine tkW 6 ?_;refine tkW 7 ?_;refine tkW 8 ?_;refine tkW 9 ?_;refine tkW 10 ?_;refine wpAnyM_done (by kernel_rfl) ?_ _
   try simp only [Exit.then]
   clear hHeld hSd;go_wp2_with fail;refine (hFu.out _ _ hS3.out).mono ?_;rintro z4 w4 ⟨rfl,hb⟩;have hS4:=hS3.out.below hb;clear hb;replace hS4:=qh hS4
   cases fb
   ·go_wp2_with fail
    refine bodyPost_ret (v:=.tuple #[]) (by simp [results,Tryz.results69,go_sem]) rfl ⟨rfl,SI.fin ⟨hI.out.mf.on hS4.out.am,hI.out.pi,hI.out.room,hI.out.n,hI.out.ly,hI.out.r⟩ hS4.out.ev (by have:=hfb.out;simp at this;exact this)⟩
   ·skip
    have h5:m1.keys.length=cap j+1:=by have h9:=hfb.out;have:=hle5.out;simp at h9;omega
    have hc4:=(cap_le j).1;have hroom:=hI.out.room h5;have hfr:true∈T1.free:=List.count_pos_iff.1 (by omega);have hz0:k=0∨0 < k:=by omega
    replace h5:=qh h5;replace hfr:=qh hfr;replace hroom:=qh hroom;rcases hz0 with hz0 | hz0
    ·subst hz0
     have hjt:j+1=Ls0.length:=by have:=hkj.out;have:=hN.out;omega
     obtain ⟨eA,eB,_⟩:=hI.out.pi.stepTop h5.out hjt (0,0) (0,0);have hlv1:=hI.out.pi.lev;rw [eA,eB] at hlv1;obtain ⟨X,Y9,hXY,hperm⟩:=flat1 (by rw [hI.out.pi.len];exact hjt) hlv1;have hnd:needOf (j+1) (Ls0.drop (j+1)) key=1:=by rw [List.drop_eq_nil_of_le (by omega)];rfl
     have hfr2:2≤T1.free.count true:=by have:=hroom.out;omega
     replace hjt:=qh hjt;replace eA:=qh eA;replace eB:=qh eB;replace hlv1:=qh hlv1;replace hperm:=qh hperm;replace hfr2:=qh hfr2;clear hnd;have hpm:(L1.flatten++Z).Perm ((h1,m1)::(X++Y9++Z)):=by rw [hXY];simp only [List.append_assoc,List.cons_append];exact List.perm_middle
     have hSp:Hid (∀ W L,MS w0 w T W T1 L→Calls Tryz.prog 115 #[.pointer (some ⟨T.t,0,none⟩),.pointer (some ⟨q,1,none⟩)] W fun e w'=>∃ (nx:Hd) (T2:TS),e=.returned (.tuple #[.string m1.sep,.agg #[.int .i64 nx.1,.int .u64 nx.2]])∧MS w0 w T w' T2 L∧MF w0 w' T2 ((h1,m1.left nx)::(nx,m1.rightHalf)::(X++Y9++Z))∧T2.n=T1.n∧T2.ly=T1.ly∧T2.r=T1.r∧T2.free.count true+1=T1.free.count true):=qh fun W L hS=>by
      have:=((hI.out.mf.on hS.am).perm hpm).split (q:=q) hq.out hfr.out (by have:=h5.out;omega);rw [hS.ev.t] at this;refine this.mono ?_;rintro e w' ⟨nx,T2,rfl,a1,a2,a3,a4,a5,a6⟩;exact ⟨nx,T2,rfl,hS.call a1.am a2,a1,a3,a4,a5,a6⟩
     replace hXY:=qh hXY;replace hpm:=qh hpm;obtain ⟨sep,hsep⟩:∃ s,s=m1.sep:=⟨_,rfl⟩;rw [← hsep] at hSp;replace hsep:=qh hsep;go_wp2_with fail;refine (hSp.out _ _ hS4.out).mono ?_;rintro z5 w5 ⟨nx,T2,rfl,hS5,hM5,n5,l5,r5,g5⟩;replace hS5:=qh hS5;replace hM5:=qh hM5;replace n5:=qh n5;replace l5:=qh l5;replace r5:=qh r5;replace g5:=qh g5;go_upto_region 11 with fail;have hS6:=hS5.out.box (.cells #[.int .i64 nx.1,.int .u64 nx.2] 71);generalize w5.alloc (.cells #[.int .i64 nx.1,.int .u64 nx.2] 71)=w6 at *;obtain ⟨NB,hNB⟩:∃ b,b=w5.heap.size:=⟨_,rfl⟩;rw [← hNB] at hS6 ⊢;replace hNB:=qh hNB;replace hS6:=qh hS6
     have hAl:Hid (∀ (W:World) (T3:TS) (L:List (Nat×Obj)) (b1 b2:Nat),MS w0 w T W T3 L→Sb W T3 b1 (.cells #[.string sep] 9)→Sb W T3 b2 (.cells #[.int .i64 h1.1,.int .u64 h1.2,.int .i64 nx.1,.int .u64 nx.2] 71)→TSame T2 T3→∃ g:Hd,(∀ z,z∈T2.F→z.1≠g)∧Calls Tryz.prog 90 #[.pointer (some ⟨A,0,none⟩),.agg (Value.bool false::(zlc++icRoot b1 b2)).toArray] W fun y W'=>y=.returned (.tuple #[.agg #[.int .i64 g.1,.int .u64 g.2],.int .i64 0])∧∃ T4,MS w0 w T W' T4 L∧TEv W W' T3 T4∧T4.F=T2.F++[(g,⟨.inn (newRoot sep h1 nx),.bool false::(zlc++icRoot b1 b2),[b1,b2]⟩)]∧T4.n=T2.n∧T4.ly=T2.ly∧T4.r=T2.r):=qh fun W T3 L b1 b2 hS h1b h2b hs3=>by
      have hx:NewND W 0 ⟨.inn (newRoot sep h1 nx),.bool false::(zlc++icRoot b1 b2),[b1,b2]⟩:=NewND.inn rfl (root_ok sep h1 nx) (by show 1≤5;omega) (icRoot_in h1b.is h2b.is) (fun _ _=>Nat.zero_le _);obtain ⟨g,hg,hC⟩:=hS.alloc _ (hx.nok (ρ:=T3.ρ) (fun q hq=>(List.mem_cons.1 hq).elim (fun e=>by rw [e];exact h1b.r) (fun e=>by rw [List.mem_singleton.1 e];exact h2b.r))) (List.count_pos_iff.1 (by rw [hs3.free];have:=hfr2.out;have:=g5.out;omega));rw [← hAe.out] at hC;refine ⟨g,by rw [← hs3.F];exact hg,hC.mono ?_⟩;rintro y W' ⟨rfl,T4,a1,a2,a3,a4,a5,a6,_⟩;exact ⟨rfl,T4,a1,a2,by rw [a3,hs3.F],a4.trans hs3.n,a5.trans hs3.ly,a6.trans hs3.r⟩
     go_cut [12,13] (fun v12 v13 wz=>∃ W9 TB top T4 b1 b2,W9=wz∧v12=.pointer (some ⟨TB,0,none⟩)∧v13=.int .i64 0∧MS w0 w T wz T4 [(TB,.cells #[.int .i64 top.1,.int .u64 top.2] 71),(NB,.cells #[.int .i64 nx.1,.int .u64 nx.2] 71),(HB,.cells #[.int .i64 h1.1,.int .u64 h1.2] 71),(XB,.cells #[.int .i64 ((i:Nat):Int),.slice (some ⟨pa,0,none⟩) N pc,.int .i64 up.1,.int .u64 up.2,.int .u64 ((mk.s:Nat):Int),.int .u8 ((mk.c:Nat):Int)] 120)]∧T4.F=T2.F++[(top,⟨.inn (newRoot sep h1 nx),.bool false::(zlc++icRoot b1 b2),[b1,b2]⟩)]∧T4.n=T2.n∧T4.ly=T2.ly∧T4.r=T2.r)
     case first =>
      have hSd:=hS6.out.drew;have hSq:=hS6;refine wp_region_late [] (S:=fun W'=>W'.cell? ⟨T.t,1,none⟩=some (.pointer (some ⟨A,0,none⟩))∧W'.heap[HB]?=some (.cells #[.int .i64 h1.1,.int .u64 h1.2] 71)∧W'.heap[NB]?=some (.cells #[.int .i64 nx.1,.int .u64 nx.2] 71)) rfl (⟨by rw [hAe.out];exact hSd.tree,hSd.nth 1 rfl,hSd.nth 0 rfl⟩) (fun hHeld=>?_)
      try dsimp only at hHeld
      clear hSd;refine tkW 0 ?_;refine tkW 1 ?_;refine tkW 2 ?_;refine tkM 3 ?_ (hz:=by rintro w ⟨e1,e2,e3⟩;obtain ⟨b0,b1c,bq,bf0,bf1⟩:=box2 e2;obtain ⟨c0,c1,cq,cf0,cf1⟩:=box2 e3;exact zf);refine tkW 4 ?_;refine tkM 6 ?_ (hz:=by rintro w ⟨e1,e2,e3⟩;obtain ⟨b0,b1c,bq,bf0,bf1⟩:=box2 e2;obtain ⟨c0,c1,cq,cf0,cf1⟩:=box2 e3;exact zf);refine tkM 7 ?_ (hz:=by rintro w ⟨e1,e2,e3⟩;obtain ⟨b0,b1c,bq,bf0,bf1⟩:=box2 e2;obtain ⟨c0,c1,cq,cf0,cf1⟩:=box2 e3;exact zf);refine wpAnyM_ready (rs:=[5,8,15]) (by kernel_rfl) (by simp) ?_;refine (AllReadyM.cons rfl (fun K hK=>?_) (AllReadyM.cons rfl (fun K hK=>?_) (AllReadyM.cons rfl (fun K hK=>?_) AllReadyM.nil)))
      ·skip
       go_simp;obtain ⟨TW1,hSa,hEa,hFa,hb1⟩:=hSq.out.slice (.cells #[.string sep] 9);have hEb:=hEa.trans (TEv.below hSa.am (Below.refl _ _).drew);replace hb1:=hb1.ev (TEv.below hSa.am (Below.refl _ _).drew);replace hSa:=hSa.drew;replace hEa:=hEb;clear hEb;have hFb:=(TSame.refl T2).trans hFa;clear hFa;generalize (w6.alloc (.cells #[.string sep] 9)).drew=W1 at *;obtain ⟨b1,hnb1⟩:∃ x,x=w6.heap.size:=⟨_,rfl⟩;rw [← hnb1] at hb1 ⊢;replace hnb1:=qh hnb1;have hS1y:zS W1 T.t A HB NB h1 nx:=⟨by rw [hAe.out];exact hSa.tree,hSa.nth 1 rfl,hSa.nth 0 rfl⟩;clear hEa;have hSb1W1:=qh hSa;have hFb1W1:=qh hFb;clear hSa hFb;replace hb1:=qh hb1;refine hK.out _ _ (fun _ _=>hS1y) ?_;clear hHeld hK K;have hHeld:=hS1y;clear hS1y
       try simp only [Act.put,zs1,zs2,zs3]
       try simp only [Act.put]
       refine wpAnyM_ready (rs:=[8,15]) (by kernel_rfl) (by simp) ?_;refine (AllReadyM.cons rfl (fun K hK=>?_) (AllReadyM.cons rfl (fun K hK=>?_) AllReadyM.nil))
       ·skip
        go_simp;obtain ⟨TW2,hSa,hEa,hFa,hb2⟩:=hSb1W1.out.slice (.cells #[.int .i64 h1.1,.int .u64 h1.2,.int .i64 nx.1,.int .u64 nx.2] 71);have hFb:=hFb1W1.out.trans hFa;clear hFa;generalize (W1.alloc (.cells #[.int .i64 h1.1,.int .u64 h1.2,.int .i64 nx.1,.int .u64 nx.2] 71))=W2 at *;obtain ⟨b2,hnb2⟩:∃ x,x=W1.heap.size:=⟨_,rfl⟩;rw [← hnb2] at hb2 ⊢;replace hnb2:=qh hnb2;replace hb1:=qh (hb1.out.ev hEa);have hS1y:zS W2 T.t A HB NB h1 nx:=⟨by rw [hAe.out];exact hSa.tree,hSa.nth 1 rfl,hSa.nth 0 rfl⟩;clear hEa;have hSb2W2:=qh hSa;have hFb2W2:=qh hFb;clear hSa hFb;replace hb2:=qh hb2;refine hK.out _ _ (fun _ _=>hS1y) ?_;clear hHeld hK K;have hHeld:=hS1y;clear hS1y
        try simp only [Act.put,zs1,zs2,zs3]
        try simp only [Act.put]
        refine tkW 9 ?_;refine ykW 10 ?_ (hy:=yieldsIf_build (by rfl) 100 _ rfl [(2,.agg (icRoot b1 b2).toArray)] (by rfl) (Value.bool false::(zlc++icRoot b1 b2)).toArray (build_inn (icRoot b1 b2) rfl));refine wpAnyM_ready (rs:=[11,15]) (by kernel_rfl) (by simp) ?_;refine (AllReadyM.cons rfl (fun K hK=>?_) (AllReadyM.cons rfl (fun K hK=>?_) AllReadyM.nil))
        ·skip
         go_simp;go_at_call 90;obtain ⟨top,htop,hC⟩:=hAl.out _ _ _ b1 b2 hSb2W2.out hb1.out hb2.out hFb2W2.out;refine hC.mono ?_;clear hC;rintro z3 W3 ⟨rfl,T4,hSa,hEa,f4,n4,l4,r4⟩;have hS1y:zS W3 T.t A HB NB h1 nx:=⟨by rw [hAe.out];exact hSa.tree,hSa.nth 1 rfl,hSa.nth 0 rfl⟩;clear hEa;have hSc:=qh hSa;clear hSa;replace f4:=qh f4;replace n4:=qh n4;replace l4:=qh l4;replace r4:=qh r4;replace htop:=qh htop;go_wp2_with fail;refine hK.out _ _ (fun _ _=>hS1y) ?_;clear hHeld hK K;have hHeld:=hS1y;clear hS1y
         try simp only [Act.put,zs1,zs2,zs3]
         try simp only [Act.put]
         refine tkW 12 ?_;refine tkW 13 ?_;refine tkW 14 ?_;refine rdM 15 ?_;intro K hK;go_simp;have hBb:Below W3.heap.size W3 (W3.alloc (.cells #[.int .i64 0,.int .u64 0] 71)):=(Below.refl _ _).alloc (Nat.le_refl _) _;have hEb:=TEv.below hSc.out.am hBb;have hSa:MS w0 w T (W3.alloc (.cells #[.int .i64 0,.int .u64 0] 71)) _ _:=hSc.out.box (.cells #[.int .i64 0,.int .u64 0] 71);clear hBb;generalize (W3.alloc (.cells #[.int .i64 0,.int .u64 0] 71))=W4 at *;obtain ⟨TB,hTB⟩:∃ x,x=W3.heap.size:=⟨_,rfl⟩;rw [← hTB] at hSa ⊢;replace hTB:=qh hTB;have hS1y:zS W4 T.t A HB NB h1 nx:=⟨by rw [hAe.out];exact hSa.tree,hSa.nth 2 rfl,hSa.nth 1 rfl⟩;clear hEb;have hSxW4:=qh hSa;clear hSa;refine hK.out _ _ (fun _ _=>hS1y) ?_;clear hHeld hK K;have hHeld:=hS1y;clear hS1y
         try simp only [Act.put,zs1,zs2,zs3]
         try simp only [Act.put]
         refine rdM 16 ?_;intro K hK;obtain ⟨b0,b1c,bq,bf0,bf1⟩:=box2 (hSxW4.out.nth 0 rfl);go_simp;clear b0 b1c bq bf0 bf1;have hSa:=hSxW4.out.set2 (.int .i64 top.1) (.int .u64 top.2);generalize ((W4.setCell ⟨TB,0,none⟩ (.int .i64 top.1)).setCell ⟨TB,1,none⟩ (.int .u64 top.2))=W5 at *;have hS1y:zS W5 T.t A HB NB h1 nx:=⟨by rw [hAe.out];exact hSa.tree,hSa.nth 2 rfl,hSa.nth 1 rfl⟩;have hSe:=qh hSa;clear hSa;refine hK.out _ _ (fun _ _=>hS1y) ?_;clear hHeld hK K;have hHeld:=hS1y;clear hS1y
         try simp only [Act.put,zs1,zs2,zs3]
         try simp only [Act.put]
         refine tkW 17 ?_;refine wpAnyM_done (by kernel_rfl) ?_ _
         try simp only [Exit.then]
         clear hHeld;go_wp2_with fail;go_meet;exact ⟨_,TB,top,T4,b1,b2,rfl,rfl,rfl,hSe.out,f4.out,n4.out,l4.out,r4.out⟩
        ·skip
         go_simp;have hBb:Below W2.heap.size W2 (W2.alloc (.cells #[.int .i64 0,.int .u64 0] 71)):=(Below.refl _ _).alloc (Nat.le_refl _) _;have hEb:=TEv.below hSb2W2.out.am hBb;have hSa:MS w0 w T (W2.alloc (.cells #[.int .i64 0,.int .u64 0] 71)) _ _:=hSb2W2.out.box (.cells #[.int .i64 0,.int .u64 0] 71);clear hBb;generalize (W2.alloc (.cells #[.int .i64 0,.int .u64 0] 71))=W3 at *;obtain ⟨TB,hTB⟩:∃ x,x=W2.heap.size:=⟨_,rfl⟩;rw [← hTB] at hSa ⊢;replace hTB:=qh hTB;replace hb1:=qh (hb1.out.ev hEb);replace hb2:=qh (hb2.out.ev hEb);have hS1y:zS W3 T.t A HB NB h1 nx:=⟨by rw [hAe.out];exact hSa.tree,hSa.nth 2 rfl,hSa.nth 1 rfl⟩;clear hEb;have hSxW3:=qh hSa;clear hSa;refine hK.out _ _ (fun _ _=>hS1y) ?_;clear hHeld hK K;have hHeld:=hS1y;clear hS1y
         try simp only [Act.put,zs1,zs2,zs3]
         try simp only [Act.put]
         refine rdM 11 ?_;intro K hK;go_simp;go_at_call 90;obtain ⟨top,htop,hC⟩:=hAl.out _ _ _ b1 b2 hSxW3.out hb1.out hb2.out hFb2W2.out;refine hC.mono ?_;clear hC;rintro z3 W4 ⟨rfl,T4,hSa,hEa,f4,n4,l4,r4⟩;have hS1y:zS W4 T.t A HB NB h1 nx:=⟨by rw [hAe.out];exact hSa.tree,hSa.nth 2 rfl,hSa.nth 1 rfl⟩;clear hEa;have hSc:=qh hSa;clear hSa;replace f4:=qh f4;replace n4:=qh n4;replace l4:=qh l4;replace r4:=qh r4;replace htop:=qh htop;go_wp2_with fail;refine hK.out _ _ (fun _ _=>hS1y) ?_;clear hHeld hK K;have hHeld:=hS1y;clear hS1y
         try simp only [Act.put,zs1,zs2,zs3]
         try simp only [Act.put]
         refine tkW 12 ?_;refine tkW 13 ?_;refine tkW 14 ?_;refine rdM 16 ?_;intro K hK;obtain ⟨b0,b1c,bq,bf0,bf1⟩:=box2 (hSc.out.nth 0 rfl);go_simp;clear b0 b1c bq bf0 bf1;have hSa:=hSc.out.set2 (.int .i64 top.1) (.int .u64 top.2);generalize ((W4.setCell ⟨TB,0,none⟩ (.int .i64 top.1)).setCell ⟨TB,1,none⟩ (.int .u64 top.2))=W5 at *;have hS1y:zS W5 T.t A HB NB h1 nx:=⟨by rw [hAe.out];exact hSa.tree,hSa.nth 2 rfl,hSa.nth 1 rfl⟩;have hSe:=qh hSa;clear hSa;refine hK.out _ _ (fun _ _=>hS1y) ?_;clear hHeld hK K;have hHeld:=hS1y;clear hS1y
         try simp only [Act.put,zs1,zs2,zs3]
         try simp only [Act.put]
         refine tkW 17 ?_;refine wpAnyM_done (by kernel_rfl) ?_ _
         try simp only [Exit.then]
         clear hHeld;go_wp2_with fail;go_meet;exact ⟨_,TB,top,T4,b1,b2,rfl,rfl,rfl,hSe.out,f4.out,n4.out,l4.out,r4.out⟩
       ·skip
        go_simp;have hBb:Below W1.heap.size W1 (W1.alloc (.cells #[.int .i64 0,.int .u64 0] 71)):=(Below.refl _ _).alloc (Nat.le_refl _) _;have hEb:=TEv.below hSb1W1.out.am hBb;have hSa:MS w0 w T (W1.alloc (.cells #[.int .i64 0,.int .u64 0] 71)) _ _:=hSb1W1.out.box (.cells #[.int .i64 0,.int .u64 0] 71);clear hBb;generalize (W1.alloc (.cells #[.int .i64 0,.int .u64 0] 71))=W2 at *;obtain ⟨TB,hTB⟩:∃ x,x=W1.heap.size:=⟨_,rfl⟩;rw [← hTB] at hSa ⊢;replace hTB:=qh hTB;replace hb1:=qh (hb1.out.ev hEb);have hS1y:zS W2 T.t A HB NB h1 nx:=⟨by rw [hAe.out];exact hSa.tree,hSa.nth 2 rfl,hSa.nth 1 rfl⟩;clear hEb;have hSxW2:=qh hSa;clear hSa;refine hK.out _ _ (fun _ _=>hS1y) ?_;clear hHeld hK K;have hHeld:=hS1y;clear hS1y
        try simp only [Act.put,zs1,zs2,zs3]
        try simp only [Act.put]
        refine rdM 8 ?_;intro K hK;go_simp;obtain ⟨TW3,hSa,hEa,hFa,hb2⟩:=hSxW2.out.slice (.cells #[.int .i64 h1.1,.int .u64 h1.2,.int .i64 nx.1,.int .u64 nx.2] 71);have hFb:=hFb1W1.out.trans hFa;clear hFa;generalize (W2.alloc (.cells #[.int .i64 h1.1,.int .u64 h1.2,.int .i64 nx.1,.int .u64 nx.2] 71))=W3 at *;obtain ⟨b2,hnb2⟩:∃ x,x=W2.heap.size:=⟨_,rfl⟩;rw [← hnb2] at hb2 ⊢;replace hnb2:=qh hnb2;replace hb1:=qh (hb1.out.ev hEa);have hS1y:zS W3 T.t A HB NB h1 nx:=⟨by rw [hAe.out];exact hSa.tree,hSa.nth 2 rfl,hSa.nth 1 rfl⟩;clear hEa;have hSb2W3:=qh hSa;have hFb2W3:=qh hFb;clear hSa hFb;replace hb2:=qh hb2;refine hK.out _ _ (fun _ _=>hS1y) ?_;clear hHeld hK K;have hHeld:=hS1y;clear hS1y
        try simp only [Act.put,zs1,zs2,zs3]
        try simp only [Act.put]
        refine tkW 9 ?_;refine ykW 10 ?_ (hy:=yieldsIf_build (by rfl) 100 _ rfl [(2,.agg (icRoot b1 b2).toArray)] (by rfl) (Value.bool false::(zlc++icRoot b1 b2)).toArray (build_inn (icRoot b1 b2) rfl));refine rdM 11 ?_;intro K hK;go_simp;go_at_call 90;obtain ⟨top,htop,hC⟩:=hAl.out _ _ _ b1 b2 hSb2W3.out hb1.out hb2.out hFb2W3.out;refine hC.mono ?_;clear hC;rintro z3 W4 ⟨rfl,T4,hSa,hEa,f4,n4,l4,r4⟩;have hS1y:zS W4 T.t A HB NB h1 nx:=⟨by rw [hAe.out];exact hSa.tree,hSa.nth 2 rfl,hSa.nth 1 rfl⟩;clear hEa;have hSc:=qh hSa;clear hSa;replace f4:=qh f4;replace n4:=qh n4;replace l4:=qh l4;replace r4:=qh r4;replace htop:=qh htop;go_wp2_with fail;refine hK.out _ _ (fun _ _=>hS1y) ?_;clear hHeld hK K;have hHeld:=hS1y;clear hS1y
        try simp only [Act.put,zs1,zs2,zs3]
        try simp only [Act.put]
        refine tkW 12 ?_;refine tkW 13 ?_;refine tkW 14 ?_;refine rdM 16 ?_;intro K hK;obtain ⟨b0,b1c,bq,bf0,bf1⟩:=box2 (hSc.out.nth 0 rfl);go_simp;clear b0 b1c bq bf0 bf1;have hSa:=hSc.out.set2 (.int .i64 top.1) (.int .u64 top.2);generalize ((W4.setCell ⟨TB,0,none⟩ (.int .i64 top.1)).setCell ⟨TB,1,none⟩ (.int .u64 top.2))=W5 at *;have hS1y:zS W5 T.t A HB NB h1 nx:=⟨by rw [hAe.out];exact hSa.tree,hSa.nth 2 rfl,hSa.nth 1 rfl⟩;have hSe:=qh hSa;clear hSa;refine hK.out _ _ (fun _ _=>hS1y) ?_;clear hHeld hK K;have hHeld:=hS1y;clear hS1y
        try simp only [Act.put,zs1,zs2,zs3]
        try simp only [Act.put]
        refine tkW 17 ?_;refine wpAnyM_done (by kernel_rfl) ?_ _
        try simp only [Exit.then]
        clear hHeld;go_wp2_with fail;go_meet;exact ⟨_,TB,top,T4,b1,b2,rfl,rfl,rfl,hSe.out,f4.out,n4.out,l4.out,r4.out⟩
      ·skip
       go_simp;obtain ⟨TW1,hSa,hEa,hFa,hb2⟩:=hSq.out.slice (.cells #[.int .i64 h1.1,.int .u64 h1.2,.int .i64 nx.1,.int .u64 nx.2] 71);have hEb:=hEa.trans (TEv.below hSa.am (Below.refl _ _).drew);replace hb2:=hb2.ev (TEv.below hSa.am (Below.refl _ _).drew);replace hSa:=hSa.drew;replace hEa:=hEb;clear hEb;have hFb:=(TSame.refl T2).trans hFa;clear hFa;generalize (w6.alloc (.cells #[.int .i64 h1.1,.int .u64 h1.2,.int .i64 nx.1,.int .u64 nx.2] 71)).drew=W1 at *;obtain ⟨b2,hnb2⟩:∃ x,x=w6.heap.size:=⟨_,rfl⟩;rw [← hnb2] at hb2 ⊢;replace hnb2:=qh hnb2;have hS1y:zS W1 T.t A HB NB h1 nx:=⟨by rw [hAe.out];exact hSa.tree,hSa.nth 1 rfl,hSa.nth 0 rfl⟩;clear hEa;have hSb2W1:=qh hSa;have hFb2W1:=qh hFb;clear hSa hFb;replace hb2:=qh hb2;refine hK.out _ _ (fun _ _=>hS1y) ?_;clear hHeld hK K;have hHeld:=hS1y;clear hS1y
       try simp only [Act.put,zs1,zs2,zs3]
       try simp only [Act.put]
       refine wpAnyM_ready (rs:=[5,15]) (by kernel_rfl) (by simp) ?_;refine (AllReadyM.cons rfl (fun K hK=>?_) (AllReadyM.cons rfl (fun K hK=>?_) AllReadyM.nil))
       ·skip
        go_simp;obtain ⟨TW2,hSa,hEa,hFa,hb1⟩:=hSb2W1.out.slice (.cells #[.string sep] 9);have hFb:=hFb2W1.out.trans hFa;clear hFa;generalize (W1.alloc (.cells #[.string sep] 9))=W2 at *;obtain ⟨b1,hnb1⟩:∃ x,x=W1.heap.size:=⟨_,rfl⟩;rw [← hnb1] at hb1 ⊢;replace hnb1:=qh hnb1;replace hb2:=qh (hb2.out.ev hEa);have hS1y:zS W2 T.t A HB NB h1 nx:=⟨by rw [hAe.out];exact hSa.tree,hSa.nth 1 rfl,hSa.nth 0 rfl⟩;clear hEa;have hSb1W2:=qh hSa;have hFb1W2:=qh hFb;clear hSa hFb;replace hb1:=qh hb1;refine hK.out _ _ (fun _ _=>hS1y) ?_;clear hHeld hK K;have hHeld:=hS1y;clear hS1y
        try simp only [Act.put,zs1,zs2,zs3]
        try simp only [Act.put]
        refine tkW 9 ?_;refine ykW 10 ?_ (hy:=yieldsIf_build (by rfl) 100 _ rfl [(2,.agg (icRoot b1 b2).toArray)] (by rfl) (Value.bool false::(zlc++icRoot b1 b2)).toArray (build_inn (icRoot b1 b2) rfl));refine wpAnyM_ready (rs:=[11,15]) (by kernel_rfl) (by simp) ?_;refine (AllReadyM.cons rfl (fun K hK=>?_) (AllReadyM.cons rfl (fun K hK=>?_) AllReadyM.nil))
        ·skip
         go_simp;go_at_call 90;obtain ⟨top,htop,hC⟩:=hAl.out _ _ _ b1 b2 hSb1W2.out hb1.out hb2.out hFb1W2.out;refine hC.mono ?_;clear hC;rintro z3 W3 ⟨rfl,T4,hSa,hEa,f4,n4,l4,r4⟩;have hS1y:zS W3 T.t A HB NB h1 nx:=⟨by rw [hAe.out];exact hSa.tree,hSa.nth 1 rfl,hSa.nth 0 rfl⟩;clear hEa;have hSc:=qh hSa;clear hSa;replace f4:=qh f4;replace n4:=qh n4;replace l4:=qh l4;replace r4:=qh r4;replace htop:=qh htop;go_wp2_with fail;refine hK.out _ _ (fun _ _=>hS1y) ?_;clear hHeld hK K;have hHeld:=hS1y;clear hS1y
         try simp only [Act.put,zs1,zs2,zs3]
         try simp only [Act.put]
         refine tkW 12 ?_;refine tkW 13 ?_;refine tkW 14 ?_;refine rdM 15 ?_;intro K hK;go_simp;have hBb:Below W3.heap.size W3 (W3.alloc (.cells #[.int .i64 0,.int .u64 0] 71)):=(Below.refl _ _).alloc (Nat.le_refl _) _;have hEb:=TEv.below hSc.out.am hBb;have hSa:MS w0 w T (W3.alloc (.cells #[.int .i64 0,.int .u64 0] 71)) _ _:=hSc.out.box (.cells #[.int .i64 0,.int .u64 0] 71);clear hBb;generalize (W3.alloc (.cells #[.int .i64 0,.int .u64 0] 71))=W4 at *;obtain ⟨TB,hTB⟩:∃ x,x=W3.heap.size:=⟨_,rfl⟩;rw [← hTB] at hSa ⊢;replace hTB:=qh hTB;have hS1y:zS W4 T.t A HB NB h1 nx:=⟨by rw [hAe.out];exact hSa.tree,hSa.nth 2 rfl,hSa.nth 1 rfl⟩;clear hEb;have hSxW4:=qh hSa;clear hSa;refine hK.out _ _ (fun _ _=>hS1y) ?_;clear hHeld hK K;have hHeld:=hS1y;clear hS1y
         try simp only [Act.put,zs1,zs2,zs3]
         try simp only [Act.put]
         refine rdM 16 ?_;intro K hK;obtain ⟨b0,b1c,bq,bf0,bf1⟩:=box2 (hSxW4.out.nth 0 rfl);go_simp;clear b0 b1c bq bf0 bf1;have hSa:=hSxW4.out.set2 (.int .i64 top.1) (.int .u64 top.2);generalize ((W4.setCell ⟨TB,0,none⟩ (.int .i64 top.1)).setCell ⟨TB,1,none⟩ (.int .u64 top.2))=W5 at *;have hS1y:zS W5 T.t A HB NB h1 nx:=⟨by rw [hAe.out];exact hSa.tree,hSa.nth 2 rfl,hSa.nth 1 rfl⟩;have hSe:=qh hSa;clear hSa;refine hK.out _ _ (fun _ _=>hS1y) ?_;clear hHeld hK K;have hHeld:=hS1y;clear hS1y
         try simp only [Act.put,zs1,zs2,zs3]
         try simp only [Act.put]
         refine tkW 17 ?_;refine wpAnyM_done (by kernel_rfl) ?_ _
         try simp only [Exit.then]
         clear hHeld;go_wp2_with fail;go_meet;exact ⟨_,TB,top,T4,b1,b2,rfl,rfl,rfl,hSe.out,f4.out,n4.out,l4.out,r4.out⟩
        ·skip
         go_simp;have hBb:Below W2.heap.size W2 (W2.alloc (.cells #[.int .i64 0,.int .u64 0] 71)):=(Below.refl _ _).alloc (Nat.le_refl _) _;have hEb:=TEv.below hSb1W2.out.am hBb;have hSa:MS w0 w T (W2.alloc (.cells #[.int .i64 0,.int .u64 0] 71)) _ _:=hSb1W2.out.box (.cells #[.int .i64 0,.int .u64 0] 71);clear hBb;generalize (W2.alloc (.cells #[.int .i64 0,.int .u64 0] 71))=W3 at *;obtain ⟨TB,hTB⟩:∃ x,x=W2.heap.size:=⟨_,rfl⟩;rw [← hTB] at hSa ⊢;replace hTB:=qh hTB;replace hb1:=qh (hb1.out.ev hEb);replace hb2:=qh (hb2.out.ev hEb);have hS1y:zS W3 T.t A HB NB h1 nx:=⟨by rw [hAe.out];exact hSa.tree,hSa.nth 2 rfl,hSa.nth 1 rfl⟩;clear hEb;have hSxW3:=qh hSa;clear hSa;refine hK.out _ _ (fun _ _=>hS1y) ?_;clear hHeld hK K;have hHeld:=hS1y;clear hS1y
         try simp only [Act.put,zs1,zs2,zs3]
         try simp only [Act.put]
         refine rdM 11 ?_;intro K hK;go_simp;go_at_call 90;obtain ⟨top,htop,hC⟩:=hAl.out _ _ _ b1 b2 hSxW3.out hb1.out hb2.out hFb1W2.out;refine hC.mono ?_;clear hC;rintro z3 W4 ⟨rfl,T4,hSa,hEa,f4,n4,l4,r4⟩;have hS1y:zS W4 T.t A HB NB h1 nx:=⟨by rw [hAe.out];exact hSa.tree,hSa.nth 2 rfl,hSa.nth 1 rfl⟩;clear hEa;have hSc:=qh hSa;clear hSa;replace f4:=qh f4;replace n4:=qh n4;replace l4:=qh l4;replace r4:=qh r4;replace htop:=qh htop;go_wp2_with fail;refine hK.out _ _ (fun _ _=>hS1y) ?_;clear hHeld hK K;have hHeld:=hS1y;clear hS1y
         try simp only [Act.put,zs1,zs2,zs3]
         try simp only [Act.put]
         refine tkW 12 ?_;refine tkW 13 ?_;refine tkW 14 ?_;refine rdM 16 ?_;intro K hK;obtain ⟨b0,b1c,bq,bf0,bf1⟩:=box2 (hSc.out.nth 0 rfl);go_simp;clear b0 b1c bq bf0 bf1;have hSa:=hSc.out.set2 (.int .i64 top.1) (.int .u64 top.2);generalize ((W4.setCell ⟨TB,0,none⟩ (.int .i64 top.1)).setCell ⟨TB,1,none⟩ (.int .u64 top.2))=W5 at *;have hS1y:zS W5 T.t A HB NB h1 nx:=⟨by rw [hAe.out];exact hSa.tree,hSa.nth 2 rfl,hSa.nth 1 rfl⟩;have hSe:=qh hSa;clear hSa;refine hK.out _ _ (fun _ _=>hS1y) ?_;clear hHeld hK K;have hHeld:=hS1y;clear hS1y
         try simp only [Act.put,zs1,zs2,zs3]
         try simp only [Act.put]
         refine tkW 17 ?_;refine wpAnyM_done (by kernel_rfl) ?_ _
         try simp only [Exit.then]
         clear hHeld;go_wp2_with fail;go_meet;exact ⟨_,TB,top,T4,b1,b2,rfl,rfl,rfl,hSe.out,f4.out,n4.out,l4.out,r4.out⟩
       ·skip
        go_simp;have hBb:Below W1.heap.size W1 (W1.alloc (.cells #[.int .i64 0,.int .u64 0] 71)):=(Below.refl _ _).alloc (Nat.le_refl _) _;have hEb:=TEv.below hSb2W1.out.am hBb;have hSa:MS w0 w T (W1.alloc (.cells #[.int .i64 0,.int .u64 0] 71)) _ _:=hSb2W1.out.box (.cells #[.int .i64 0,.int .u64 0] 71);clear hBb;generalize (W1.alloc (.cells #[.int .i64 0,.int .u64 0] 71))=W2 at *;obtain ⟨TB,hTB⟩:∃ x,x=W1.heap.size:=⟨_,rfl⟩;rw [← hTB] at hSa ⊢;replace hTB:=qh hTB;replace hb2:=qh (hb2.out.ev hEb);have hS1y:zS W2 T.t A HB NB h1 nx:=⟨by rw [hAe.out];exact hSa.tree,hSa.nth 2 rfl,hSa.nth 1 rfl⟩;clear hEb;have hSxW2:=qh hSa;clear hSa;refine hK.out _ _ (fun _ _=>hS1y) ?_;clear hHeld hK K;have hHeld:=hS1y;clear hS1y
        try simp only [Act.put,zs1,zs2,zs3]
        try simp only [Act.put]
        refine rdM 5 ?_;intro K hK;go_simp;obtain ⟨TW3,hSa,hEa,hFa,hb1⟩:=hSxW2.out.slice (.cells #[.string sep] 9);have hFb:=hFb2W1.out.trans hFa;clear hFa;generalize (W2.alloc (.cells #[.string sep] 9))=W3 at *;obtain ⟨b1,hnb1⟩:∃ x,x=W2.heap.size:=⟨_,rfl⟩;rw [← hnb1] at hb1 ⊢;replace hnb1:=qh hnb1;replace hb2:=qh (hb2.out.ev hEa);have hS1y:zS W3 T.t A HB NB h1 nx:=⟨by rw [hAe.out];exact hSa.tree,hSa.nth 2 rfl,hSa.nth 1 rfl⟩;clear hEa;have hSb1W3:=qh hSa;have hFb1W3:=qh hFb;clear hSa hFb;replace hb1:=qh hb1;refine hK.out _ _ (fun _ _=>hS1y) ?_;clear hHeld hK K;have hHeld:=hS1y;clear hS1y
        try simp only [Act.put,zs1,zs2,zs3]
        try simp only [Act.put]
        refine tkW 9 ?_;refine ykW 10 ?_ (hy:=yieldsIf_build (by rfl) 100 _ rfl [(2,.agg (icRoot b1 b2).toArray)] (by rfl) (Value.bool false::(zlc++icRoot b1 b2)).toArray (build_inn (icRoot b1 b2) rfl));refine rdM 11 ?_;intro K hK;go_simp;go_at_call 90;obtain ⟨top,htop,hC⟩:=hAl.out _ _ _ b1 b2 hSb1W3.out hb1.out hb2.out hFb1W3.out;refine hC.mono ?_;clear hC;rintro z3 W4 ⟨rfl,T4,hSa,hEa,f4,n4,l4,r4⟩;have hS1y:zS W4 T.t A HB NB h1 nx:=⟨by rw [hAe.out];exact hSa.tree,hSa.nth 2 rfl,hSa.nth 1 rfl⟩;clear hEa;have hSc:=qh hSa;clear hSa;replace f4:=qh f4;replace n4:=qh n4;replace l4:=qh l4;replace r4:=qh r4;replace htop:=qh htop;go_wp2_with fail;refine hK.out _ _ (fun _ _=>hS1y) ?_;clear hHeld hK K;have hHeld:=hS1y;clear hS1y
        try simp only [Act.put,zs1,zs2,zs3]
        try simp only [Act.put]
        refine tkW 12 ?_;refine tkW 13 ?_;refine tkW 14 ?_;refine rdM 16 ?_;intro K hK;obtain ⟨b0,b1c,bq,bf0,bf1⟩:=box2 (hSc.out.nth 0 rfl);go_simp;clear b0 b1c bq bf0 bf1;have hSa:=hSc.out.set2 (.int .i64 top.1) (.int .u64 top.2);generalize ((W4.setCell ⟨TB,0,none⟩ (.int .i64 top.1)).setCell ⟨TB,1,none⟩ (.int .u64 top.2))=W5 at *;have hS1y:zS W5 T.t A HB NB h1 nx:=⟨by rw [hAe.out];exact hSa.tree,hSa.nth 2 rfl,hSa.nth 1 rfl⟩;have hSe:=qh hSa;clear hSa;refine hK.out _ _ (fun _ _=>hS1y) ?_;clear hHeld hK K;have hHeld:=hS1y;clear hS1y
        try simp only [Act.put,zs1,zs2,zs3]
        try simp only [Act.put]
        refine tkW 17 ?_;refine wpAnyM_done (by kernel_rfl) ?_ _
        try simp only [Exit.then]
        clear hHeld;go_wp2_with fail;go_meet;exact ⟨_,TB,top,T4,b1,b2,rfl,rfl,rfl,hSe.out,f4.out,n4.out,l4.out,r4.out⟩
      ·skip
       go_simp;have hBb:Below w6.heap.size w6 (w6.alloc (.cells #[.int .i64 0,.int .u64 0] 71)).drew:=((Below.refl _ _).alloc (Nat.le_refl _) _).drew;have hEb:=TEv.below hSq.out.am hBb;have hSa:MS w0 w T (w6.alloc (.cells #[.int .i64 0,.int .u64 0] 71)).drew _ _:=(hSq.out.box (.cells #[.int .i64 0,.int .u64 0] 71)).drew;clear hBb;generalize (w6.alloc (.cells #[.int .i64 0,.int .u64 0] 71)).drew=W1 at *;obtain ⟨TB,hTB⟩:∃ x,x=w6.heap.size:=⟨_,rfl⟩;rw [← hTB] at hSa ⊢;replace hTB:=qh hTB;have hS1y:zS W1 T.t A HB NB h1 nx:=⟨by rw [hAe.out];exact hSa.tree,hSa.nth 2 rfl,hSa.nth 1 rfl⟩;clear hEb;have hSxW1:=qh hSa;clear hSa;refine hK.out _ _ (fun _ _=>hS1y) ?_;clear hHeld hK K;have hHeld:=hS1y;clear hS1y
       try simp only [Act.put,zs1,zs2,zs3]
       try simp only [Act.put]
       refine wpAnyM_ready (rs:=[5,8]) (by kernel_rfl) (by simp) ?_;refine (AllReadyM.cons rfl (fun K hK=>?_) (AllReadyM.cons rfl (fun K hK=>?_) AllReadyM.nil))
       ·skip
        go_simp;obtain ⟨TW2,hSa,hEa,hFa,hb1⟩:=hSxW1.out.slice (.cells #[.string sep] 9);have hFb:=(TSame.refl T2).trans hFa;clear hFa;generalize (W1.alloc (.cells #[.string sep] 9))=W2 at *;obtain ⟨b1,hnb1⟩:∃ x,x=W1.heap.size:=⟨_,rfl⟩;rw [← hnb1] at hb1 ⊢;replace hnb1:=qh hnb1;have hS1y:zS W2 T.t A HB NB h1 nx:=⟨by rw [hAe.out];exact hSa.tree,hSa.nth 2 rfl,hSa.nth 1 rfl⟩;clear hEa;have hSb1W2:=qh hSa;have hFb1W2:=qh hFb;clear hSa hFb;replace hb1:=qh hb1;refine hK.out _ _ (fun _ _=>hS1y) ?_;clear hHeld hK K;have hHeld:=hS1y;clear hS1y
        try simp only [Act.put,zs1,zs2,zs3]
        try simp only [Act.put]
        refine rdM 8 ?_;intro K hK;go_simp;obtain ⟨TW3,hSa,hEa,hFa,hb2⟩:=hSb1W2.out.slice (.cells #[.int .i64 h1.1,.int .u64 h1.2,.int .i64 nx.1,.int .u64 nx.2] 71);have hFb:=hFb1W2.out.trans hFa;clear hFa;generalize (W2.alloc (.cells #[.int .i64 h1.1,.int .u64 h1.2,.int .i64 nx.1,.int .u64 nx.2] 71))=W3 at *;obtain ⟨b2,hnb2⟩:∃ x,x=W2.heap.size:=⟨_,rfl⟩;rw [← hnb2] at hb2 ⊢;replace hnb2:=qh hnb2;replace hb1:=qh (hb1.out.ev hEa);have hS1y:zS W3 T.t A HB NB h1 nx:=⟨by rw [hAe.out];exact hSa.tree,hSa.nth 2 rfl,hSa.nth 1 rfl⟩;clear hEa;have hSb2W3:=qh hSa;have hFb2W3:=qh hFb;clear hSa hFb;replace hb2:=qh hb2;refine hK.out _ _ (fun _ _=>hS1y) ?_;clear hHeld hK K;have hHeld:=hS1y;clear hS1y
        try simp only [Act.put,zs1,zs2,zs3]
        try simp only [Act.put]
        refine tkW 9 ?_;refine ykW 10 ?_ (hy:=yieldsIf_build (by rfl) 100 _ rfl [(2,.agg (icRoot b1 b2).toArray)] (by rfl) (Value.bool false::(zlc++icRoot b1 b2)).toArray (build_inn (icRoot b1 b2) rfl));refine rdM 11 ?_;intro K hK;go_simp;go_at_call 90;obtain ⟨top,htop,hC⟩:=hAl.out _ _ _ b1 b2 hSb2W3.out hb1.out hb2.out hFb2W3.out;refine hC.mono ?_;clear hC;rintro z3 W4 ⟨rfl,T4,hSa,hEa,f4,n4,l4,r4⟩;have hS1y:zS W4 T.t A HB NB h1 nx:=⟨by rw [hAe.out];exact hSa.tree,hSa.nth 2 rfl,hSa.nth 1 rfl⟩;clear hEa;have hSc:=qh hSa;clear hSa;replace f4:=qh f4;replace n4:=qh n4;replace l4:=qh l4;replace r4:=qh r4;replace htop:=qh htop;go_wp2_with fail;refine hK.out _ _ (fun _ _=>hS1y) ?_;clear hHeld hK K;have hHeld:=hS1y;clear hS1y
        try simp only [Act.put,zs1,zs2,zs3]
        try simp only [Act.put]
        refine tkW 12 ?_;refine tkW 13 ?_;refine tkW 14 ?_;refine rdM 16 ?_;intro K hK;obtain ⟨b0,b1c,bq,bf0,bf1⟩:=box2 (hSc.out.nth 0 rfl);go_simp;clear b0 b1c bq bf0 bf1;have hSa:=hSc.out.set2 (.int .i64 top.1) (.int .u64 top.2);generalize ((W4.setCell ⟨TB,0,none⟩ (.int .i64 top.1)).setCell ⟨TB,1,none⟩ (.int .u64 top.2))=W5 at *;have hS1y:zS W5 T.t A HB NB h1 nx:=⟨by rw [hAe.out];exact hSa.tree,hSa.nth 2 rfl,hSa.nth 1 rfl⟩;have hSe:=qh hSa;clear hSa;refine hK.out _ _ (fun _ _=>hS1y) ?_;clear hHeld hK K;have hHeld:=hS1y;clear hS1y
        try simp only [Act.put,zs1,zs2,zs3]
        try simp only [Act.put]
        refine tkW 17 ?_;refine wpAnyM_done (by kernel_rfl) ?_ _
        try simp only [Exit.then]
        clear hHeld;go_wp2_with fail;go_meet;exact ⟨_,TB,top,T4,b1,b2,rfl,rfl,rfl,hSe.out,f4.out,n4.out,l4.out,r4.out⟩
       ·skip
        go_simp;obtain ⟨TW2,hSa,hEa,hFa,hb2⟩:=hSxW1.out.slice (.cells #[.int .i64 h1.1,.int .u64 h1.2,.int .i64 nx.1,.int .u64 nx.2] 71);have hFb:=(TSame.refl T2).trans hFa;clear hFa;generalize (W1.alloc (.cells #[.int .i64 h1.1,.int .u64 h1.2,.int .i64 nx.1,.int .u64 nx.2] 71))=W2 at *;obtain ⟨b2,hnb2⟩:∃ x,x=W1.heap.size:=⟨_,rfl⟩;rw [← hnb2] at hb2 ⊢;replace hnb2:=qh hnb2;have hS1y:zS W2 T.t A HB NB h1 nx:=⟨by rw [hAe.out];exact hSa.tree,hSa.nth 2 rfl,hSa.nth 1 rfl⟩;clear hEa;have hSb2W2:=qh hSa;have hFb2W2:=qh hFb;clear hSa hFb;replace hb2:=qh hb2;refine hK.out _ _ (fun _ _=>hS1y) ?_;clear hHeld hK K;have hHeld:=hS1y;clear hS1y
        try simp only [Act.put,zs1,zs2,zs3]
        try simp only [Act.put]
        refine rdM 5 ?_;intro K hK;go_simp;obtain ⟨TW3,hSa,hEa,hFa,hb1⟩:=hSb2W2.out.slice (.cells #[.string sep] 9);have hFb:=hFb2W2.out.trans hFa;clear hFa;generalize (W2.alloc (.cells #[.string sep] 9))=W3 at *;obtain ⟨b1,hnb1⟩:∃ x,x=W2.heap.size:=⟨_,rfl⟩;rw [← hnb1] at hb1 ⊢;replace hnb1:=qh hnb1;replace hb2:=qh (hb2.out.ev hEa);have hS1y:zS W3 T.t A HB NB h1 nx:=⟨by rw [hAe.out];exact hSa.tree,hSa.nth 2 rfl,hSa.nth 1 rfl⟩;clear hEa;have hSb1W3:=qh hSa;have hFb1W3:=qh hFb;clear hSa hFb;replace hb1:=qh hb1;refine hK.out _ _ (fun _ _=>hS1y) ?_;clear hHeld hK K;have hHeld:=hS1y;clear hS1y
        try simp only [Act.put,zs1,zs2,zs3]
        try simp only [Act.put]
        refine tkW 9 ?_;refine ykW 10 ?_ (hy:=yieldsIf_build (by rfl) 100 _ rfl [(2,.agg (icRoot b1 b2).toArray)] (by rfl) (Value.bool false::(zlc++icRoot b1 b2)).toArray (build_inn (icRoot b1 b2) rfl));refine rdM 11 ?_;intro K hK;go_simp;go_at_call 90;obtain ⟨top,htop,hC⟩:=hAl.out _ _ _ b1 b2 hSb1W3.out hb1.out hb2.out hFb1W3.out;refine hC.mono ?_;clear hC;rintro z3 W4 ⟨rfl,T4,hSa,hEa,f4,n4,l4,r4⟩;have hS1y:zS W4 T.t A HB NB h1 nx:=⟨by rw [hAe.out];exact hSa.tree,hSa.nth 2 rfl,hSa.nth 1 rfl⟩;clear hEa;have hSc:=qh hSa;clear hSa;replace f4:=qh f4;replace n4:=qh n4;replace l4:=qh l4;replace r4:=qh r4;replace htop:=qh htop;go_wp2_with fail;refine hK.out _ _ (fun _ _=>hS1y) ?_;clear hHeld hK K;have hHeld:=hS1y;clear hS1y
        try simp only [Act.put,zs1,zs2,zs3]
        try simp only [Act.put]
        refine tkW 12 ?_;refine tkW 13 ?_;refine tkW 14 ?_;refine rdM 16 ?_;intro K hK;obtain ⟨b0,b1c,bq,bf0,bf1⟩:=box2 (hSc.out.nth 0 rfl);go_simp;clear b0 b1c bq bf0 bf1;have hSa:=hSc.out.set2 (.int .i64 top.1) (.int .u64 top.2);generalize ((W4.setCell ⟨TB,0,none⟩ (.int .i64 top.1)).setCell ⟨TB,1,none⟩ (.int .u64 top.2))=W5 at *;have hS1y:zS W5 T.t A HB NB h1 nx:=⟨by rw [hAe.out];exact hSa.tree,hSa.nth 2 rfl,hSa.nth 1 rfl⟩;have hSe:=qh hSa;clear hSa;refine hK.out _ _ (fun _ _=>hS1y) ?_;clear hHeld hK K;have hHeld:=hS1y;clear hS1y
        try simp only [Act.put,zs1,zs2,zs3]
        try simp only [Act.put]
        refine tkW 17 ?_;refine wpAnyM_done (by kernel_rfl) ?_ _
        try simp only [Exit.then]
        clear hHeld;go_wp2_with fail;go_meet;exact ⟨_,TB,top,T4,b1,b2,rfl,rfl,rfl,hSe.out,f4.out,n4.out,l4.out,r4.out⟩
     case rest =>
      obtain ⟨wz,TB,top,T4,b1,b2,hwz,rfl,rfl,hS7,f7,n7,l7,r7⟩:=hcut;subst hwz;replace hS7:=qh hS7;replace f7:=qh f7;replace n7:=qh n7;replace l7:=qh l7;replace r7:=qh r7
      have hM7:=(hM5.out.app hS7.out.am f7.out (.inr ⟨_,rfl⟩)).perm (G':=(L1.set j [(h1,m1.left nx),(nx,m1.rightHalf)]++[[(top,newRoot m1.sep h1 nx)]]).flatten++Z) (by
       refine List.Perm.trans ?_ ((hperm.out (h1,m1.left nx) (nx,m1.rightHalf) (top,newRoot m1.sep h1 nx)).append_right Z);rw [hsep.out];simp only [List.cons_append,List.append_assoc]
       exact List.Perm.refl _)
      obtain ⟨_,_,p1,p2,p3,p4,p5,p8,p7⟩:=hI.out.pi.stepTop h5.out hjt.out nx top;obtain ⟨Lf,hLf⟩:∃ x,x=L1.set j [(h1,m1.left nx),(nx,m1.rightHalf)]++[[(top,newRoot m1.sep h1 nx)]]:=⟨_,rfl⟩;rw [← hLf] at hM7 p1 p2 p3 p4 p5 p7 p8;have hLv:LvOK Ls0 Lf C top∧(Fat Ls0→Fat Lf):=⟨⟨p1,p2,p3,p4,p5,⟨newRoot m1.sep h1 nx,by rw [hLf];simp⟩,p7⟩,p8⟩;clear p1 p2 p3 p4 p5 p7 p8;replace hM7:=qh hM7;replace hLf:=qh hLf;replace hLv:=qh hLv;obtain ⟨x6a,x6b,x6c,x6d,x6e,x6f,x6g,x6h⟩:=box6 (hS7.out.nth 3 rfl);by_cases hi0:i=0
      ·subst hi0
       obtain ⟨g0,g1,gq,gf0,gf1⟩:=box2 (hS7.out.nth 0 rfl);have hblk:wz.heap[T.t]?=some (.cells (treeC T4.P.1 T4.d.A.a T4.r T4.n T4.ly) 73):=by have:=hS7.out.am.blk;rw [hS7.out.ev.t] at this;exact this
       have c2:wz.cell? ⟨T.t,2,none⟩=some (.int .i64 T4.r.1):=by rw [cell_of_heap hblk];rfl
       have c3:wz.cell? ⟨T.t,3,none⟩=some (.int .u64 T4.r.2):=by rw [cell_of_heap hblk];rfl
       have cf:=frozen_of_heap hblk;have ctl:=heap_lt hblk;have hu7:Upd [T4.t] wz ((wz.setCell ⟨T.t,2,none⟩ (.int .i64 top.1)).setCell ⟨T.t,3,none⟩ (.int .u64 top.2)):=((Upd.refl [T4.t] wz).setCell (p:=⟨T.t,2,none⟩) (by rw [hS7.out.ev.t];simp) _).setCell (p:=⟨T.t,3,none⟩) (by rw [hS7.out.ev.t];simp) _;have hb7:((wz.setCell ⟨T.t,2,none⟩ (.int .i64 top.1)).setCell ⟨T.t,3,none⟩ (.int .u64 top.2)).heap[T4.t]?=some (.cells (treeC T4.P.1 T4.d.A.a top T4.n T4.ly) 73):=by rw [hS7.out.ev.t,heap_set_same (heap_set_same hblk 2 _) 3 _];rfl
       obtain ⟨a7,ev7⟩:=hS7.out.am.own top T4.n T4.ly hu7 hb7;have hfin:Hid (SetF w0 w T Ls0 C r Z 0 up mk ((wz.setCell ⟨T.t,2,none⟩ (.int .i64 top.1)).setCell ⟨T.t,3,none⟩ (.int .u64 top.2))):=qh ⟨_,Lf,top,hS7.out.ev.trans ev7,?_,?_,hLv.out,.inr (.inl ⟨rfl,rfl,hM7.out.same a7 rfl⟩)⟩
       rotate_left 1
       ·show T4.n=_;rw [n7.out,n5.out];exact hI.out.n
       ·show T4.ly=_;rw [l7.out,l5.out];exact hI.out.ly
       clear a7 ev7 hu7 hb7 hblk;go_wp2_with fail;refine bodyPost_ret (v:=.tuple #[]) (by simp [results,Tryz.results69,go_sem]) rfl ⟨rfl,hfin.out⟩
      ·skip
       have hi0b:((i:Int) == 0)=false:=by simp;omega
       obtain ⟨nlp,Z9,hZ,hnl,hncv,hnk,hmk,hc9⟩:=hup.out hi0;have hpm9:(Lf.flatten++Z).Perm ((up,nlp)::(Lf.flatten++Z9)):=(List.Perm.append_left _ hZ).trans List.perm_middle;have hM8:=hM7.out.perm hpm9;obtain ⟨q3,nd3,hnF3,hbn3,hq3,hkd3⟩:=hM8.ent (List.mem_cons_self ..);simp only at hnF3 hbn3 hq3;obtain ⟨f,hkf,hbf⟩:=kd_leaf hkd3 (by rw [hbn3];exact hnl) (fun b hb=>((hM8.am.ok _ hnF3).inn b hb).1);obtain ⟨hf,hcs3⟩:=(hM8.am.ok _ hnF3).lf f hkf;have hfn:f.bn=nlp:=hbf.symm.trans hbn3;have hcl:=lfc_len hf.S;have hAt3:Hid (∀ W L,MS w0 w T W T4 L→W.heap[q3]?=some (.cells (.int .u64 up.2::.bool true::(lfc f++zic)).toArray 192)):=qh fun W L hS=>by have:=hS.am.at hnF3 hq3;rw [hcs3] at this;exact this
       have hGt3:Hid (∀ W L,MS w0 w T W T4 L→Calls Tryz.prog 62 #[.pointer (some ⟨A,0,none⟩),.agg #[.int .i64 up.1,.int .u64 up.2]] W fun y W'=>y=.returned (.tuple #[.pointer (some ⟨q3,1,none⟩),.bool true])∧Below W.heap.size W W'):=qh fun W L hS=>by rw [hAe.out];exact hS.getQ hq3
       have hcov:f.cov mk=true:=cov_of hf hmk (by rw [hfn];exact hncv);have hPt:=qh fun W=>lfPut_any f hf ⟨mk,s0,s0,true,top⟩ ⟨hmk,fun _=>⟨hc9,rfl,rfl⟩,fun e=>(by cases e)⟩ hcov (fun e=>by rw [hfn,hnk] at e;cases e) W
       rw [hfn] at hPt;unfold slc at hPt;simp only at hPt;obtain ⟨cs,hcse⟩:∃ c,c=lfc f:=⟨_,rfl⟩;rw [← hcse] at hPt hAt3 hcl;obtain ⟨y,hy⟩:∃ c,c=zic:=⟨_,rfl⟩;rw [← hy] at hAt3;have hylen:y.length=8:=by rw [hy];rfl
       replace hZ:=qh hZ;replace hnl:=qh hnl;replace hncv:=qh hncv;replace hnk:=qh hnk;replace hmk:=qh hmk;replace hc9:=qh hc9;replace hpm9:=qh hpm9;replace hM8:=qh hM8;replace hnF3:=qh hnF3;replace hbn3:=qh hbn3;replace hq3:=qh hq3;replace hkd3:=qh hkd3;replace hkf:=qh hkf;replace hbf:=qh hbf;replace hf:=qh hf;replace hcs3:=qh hcs3;replace hfn:=qh hfn;replace hcl:=qh hcl;replace hcov:=qh hcov;replace hcse:=qh hcse;replace hy:=qh hy;replace hylen:=qh hylen;go_upto_region 14 with fail;clear x6a x6b x6c x6d x6e x6f x6g x6h;have hSd:=hS7.out.drew;refine wp_region_late [] (S:=fun W'=>W'.cell? ⟨T.t,1,none⟩=some (.pointer (some ⟨A,0,none⟩))∧W'.heap[XB]?=some (.cells #[.int .i64 ((i:Nat):Int),.slice (some ⟨pa,0,none⟩) N pc,.int .i64 up.1,.int .u64 up.2,.int .u64 ((mk.s:Nat):Int),.int .u8 ((mk.c:Nat):Int)] 120)) rfl (⟨by rw [hAe.out];exact hSd.tree,hSd.nth 3 rfl⟩) (fun hHeld=>?_)
       try dsimp only at hHeld
       refine tkW 0 ?_;refine tkW 1 ?_;refine tkW 2 ?_;refine tkM 3 ?_ (hz:=by rintro w ⟨e1,e2⟩;obtain ⟨d0,d1,d2,d3,d4,d5,d6,d7⟩:=box6 e2;exact zf);refine tkW 4 ?_;refine tkM 5 ?_ (hz:=by rintro w ⟨e1,e2⟩;obtain ⟨d0,d1,d2,d3,d4,d5,d6,d7⟩:=box6 e2;exact zf);refine rdM 6 ?_;intro K hK;go_simp;go_at_call 62;refine (hGt3.out _ _ hSd).mono ?_;rintro z3 w10 ⟨rfl,hb⟩;have hS10:=hSd.below hb;clear hb;have hS1y:w10.cell? ⟨T.t,1,none⟩=some (.pointer (some ⟨A,0,none⟩))∧w10.heap[XB]?=some (.cells #[.int .i64 ((i:Nat):Int),.slice (some ⟨pa,0,none⟩) N pc,.int .i64 up.1,.int .u64 up.2,.int .u64 ((mk.s:Nat):Int),.int .u8 ((mk.c:Nat):Int)] 120):=⟨by rw [hAe.out];exact hS10.tree,hS10.nth 3 rfl⟩;replace hS10:=qh hS10;go_wp2_with fail;refine hK.out _ _ (fun _ _=>hS1y) ?_;clear hHeld hK K;have hHeld:=hS1y;clear hS1y
       try simp only [Act.put,zs1,zs2,zs3]
       try simp only [Act.put]
       refine tkW 7 ?_;refine tkW 8 ?_;refine tkW 9 ?_;refine tkW 10 ?_;refine tkW 11 ?_;refine wpAnyM_done (by kernel_rfl) ?_ _
       try simp only [Exit.then]
       clear hHeld hSd;go_upto_region 15 with fail;have hSd:=hS10.out.drew;refine wp_region_late [16] (S:=fun W'=>W'.heap[q3]?=some (.cells (.int .u64 up.2::.bool true::(cs++y)).toArray 192)∧W'.heap[XB]?=some (.cells #[.int .i64 ((i:Nat):Int),.slice (some ⟨pa,0,none⟩) N pc,.int .i64 up.1,.int .u64 up.2,.int .u64 ((mk.s:Nat):Int),.int .u8 ((mk.c:Nat):Int)] 120)∧W'.heap[TB]?=some (.cells #[.int .i64 top.1,.int .u64 top.2] 71)) rfl (⟨hAt3.out _ _ hSd,hSd.nth 3 rfl,hSd.nth 0 rfl⟩) (fun hHeld=>?_)
       try dsimp only at hHeld
       generalize w10.drew=w10d at *;refine tkW 0 ?_;refine tkW 1 ?_;refine tkW 2 ?_;refine tkW 3 ?_;refine ykM 4 ?_ (hy:=yieldsIf_load_mid (by rfl) 95 (.tmp 109) rfl q3 2 (by rfl) cs _ (fun w hw=>range_mid hw.1 hcl.out) Tryz.underlying95 rfl (by rw [hcl.out];kernel_rfl));refine tkW 5 ?_;refine tkM 6 ?_ (hz:=by rintro w ⟨e0,e1,e2⟩;obtain ⟨d0,d1,d2,d3,d4,d5,d6,d7⟩:=box6 e1;obtain ⟨b0,b1,bq,bf0,bf1⟩:=box2 e2;exact zf);refine tkM 7 ?_ (hz:=by rintro w ⟨e0,e1,e2⟩;obtain ⟨d0,d1,d2,d3,d4,d5,d6,d7⟩:=box6 e1;obtain ⟨b0,b1,bq,bf0,bf1⟩:=box2 e2;exact zf);refine tkW 8 ?_;refine rdM 9 ?_;intro K hK;go_simp;go_at_call 64;refine (hPt.out _).mono ?_;rintro z3 w11 ⟨cg,co,g,o,rfl,hcg,hco,hg,hgb,_,hb⟩;have hS11:=hSd.below hb;clear hb;have hS1y:w11.heap[q3]?=some (.cells (.int .u64 up.2::.bool true::(cs++y)).toArray 192)∧w11.heap[XB]?=some (.cells #[.int .i64 ((i:Nat):Int),.slice (some ⟨pa,0,none⟩) N pc,.int .i64 up.1,.int .u64 up.2,.int .u64 ((mk.s:Nat):Int),.int .u8 ((mk.c:Nat):Int)] 120)∧w11.heap[TB]?=some (.cells #[.int .i64 top.1,.int .u64 top.2] 71):=⟨hAt3.out _ _ hS11,hS11.nth 3 rfl,hS11.nth 0 rfl⟩;replace hS11:=qh hS11;replace hcg:=qh hcg;replace hco:=qh hco;replace hg:=qh hg;replace hgb:=qh hgb;go_wp2_with fail;refine hK.out _ _ (fun _ _=>hS1y) ?_;clear hHeld hK K;have hHeld:=hS1y;clear hS1y
       try simp only [Act.put,zs1,zs2,zs3]
       try simp only [Act.put]
       refine tkW 10 ?_;refine tkW 11 ?_;refine tkW 12 ?_;refine tkW 13 ?_;refine tkW 14 ?_;refine tkW 15 ?_;refine rdM 16 ?_;intro K hK;rw [if_pos (by rfl)];have hc:=hAt3.out _ _ hS11.out;have hlen:cg.length=111:=by rw [hcg.out];exact lfc_len hg.out.S
       have th:=mn_there (o:=2) (n:=cg.toArray.size) hc (by simp [hcl.out,hylen.out,hlen]);refine wp_store_mid 95 (.tmp 120) (.tmp 116) rfl q3 2 cg.toArray (by rfl) (by rfl) th (by rw [List.size_toArray,hlen];kernel_rfl) (by rw [hcg.out];exact lfc_one g) ?_;have hst:=mn_set_leaf hc (vs:=cg) (by rw [hlen,hcl.out]);have hN8:NewND (w11.setCells q3 2 cg) 0 ⟨.leaf g,.bool true::(lfc g++zic),[]⟩:=NewND.leaf hg.out;obtain ⟨T5,hS12,ev12,f12,n12,l12,r12,g12⟩:=hS11.out.store hnF3.out hq3.out hN8 (fun b hb=>by cases hb) (hb_upd w11 q3 2 cg) (by rw [← hcg.out,← hy.out];exact hst);have hM12:=hM8.out.set hS12.am f12 (.inl ⟨g,rfl⟩);clear hst th hc hN8;rw [show cg.toArray.toList=cg from rfl];generalize w11.setCells q3 2 cg=w12 at *;replace hS12:=qh hS12;replace ev12:=qh ev12;replace f12:=qh f12;replace n12:=qh n12;replace l12:=qh l12;replace r12:=qh r12;replace g12:=qh g12;replace hM12:=qh hM12;replace hlen:=qh hlen;refine hK.out _ _ (fun h=>by cases h) ?_;clear hK K
       try simp only [Act.put,zs1,zs2,zs3]
       try simp only [Act.put]
       refine wpAnyM_done (by kernel_rfl) ?_ _
       try simp only [Exit.then]
       clear hSd;go_wp2_with fail;go_roundg 0
       case rel =>
        refine .inr ⟨rfl,by go_num,T5,Lf,top,hS12.out.ev,?_,?_,hLv.out,.inr (.inr ⟨hi0,?_,nlp,Z9,hZ.out,hnl.out,hM12.out.perm ?_⟩)⟩
        ·rw [n12.out,n7.out,n5.out];exact hI.out.n
        ·rw [l12.out,l7.out,l5.out];exact hI.out.ly
        ·rw [r12.out,r7.out,r5.out];exact hI.out.r
        ·have e:(⟨.leaf g,.bool true::(lfc g++zic),[]⟩:ND).bn=nlp.put (mT mk) ⟨mk,s0,s0,true,top⟩:=by show g.bn=_;rw [hgb.out]
         rw [e];exact List.perm_middle.symm
       case measure=>omega
    ·skip
     have hjt:j+1 < Ls0.length:=by have:=hkj.out;have:=hN.out;omega
     obtain ⟨A2,hp,n,B2,hR,hR0,hhp,hat,⟨lo2,hno2⟩,hnl,hcv,hnk,hn4,hst⟩:=hI.out.pi.step h5.out hjt hs0.out;obtain ⟨X,Y9,W1,W2,hXY,hXW,hperm⟩:=flat2 hI.out.pi.lev hR;have hndst:=need_step hR0 hat;have hpk2:=hPg.out (j+1) (by have:=hN.out;omega);rw [← hhp,show N - 1 - (j+1)=k - 1 by have:=hkj.out;omega] at hpk2;replace hjt:=qh hjt;replace hR:=qh hR;replace hR0:=qh hR0;replace hhp:=qh hhp;replace hat:=qh hat;replace hno2:=qh hno2;replace hnl:=qh hnl;replace hcv:=qh hcv;replace hnk:=qh hnk;replace hn4:=qh hn4;replace hst:=qh hst;replace hXW:=qh hXW;replace hperm:=qh hperm;replace hndst:=qh hndst;replace hpk2:=qh hpk2;have hpm:(L1.flatten++Z).Perm ((h1,m1)::(X++Y9++Z)):=by rw [hXY];simp only [List.append_assoc,List.cons_append];exact List.perm_middle
     have hSp:Hid (∀ W L,MS w0 w T W T1 L→Calls Tryz.prog 115 #[.pointer (some ⟨T.t,0,none⟩),.pointer (some ⟨q,1,none⟩)] W fun e w'=>∃ (nx:Hd) (T2:TS),e=.returned (.tuple #[.string m1.sep,.agg #[.int .i64 nx.1,.int .u64 nx.2]])∧MS w0 w T w' T2 L∧MF w0 w' T2 ((h1,m1.left nx)::(nx,m1.rightHalf)::(X++Y9++Z))∧T2.n=T1.n∧T2.ly=T1.ly∧T2.r=T1.r∧T2.free.count true+1=T1.free.count true):=qh fun W L hS=>by
      have:=((hI.out.mf.on hS.am).perm hpm).split (q:=q) hq.out hfr.out (by have:=h5.out;omega);rw [hS.ev.t] at this;refine this.mono ?_;rintro e w' ⟨nx,T2,rfl,a1,a2,a3,a4,a5,a6⟩;exact ⟨nx,T2,rfl,hS.call a1.am a2,a1,a3,a4,a5,a6⟩
     replace hXY:=qh hXY;replace hpm:=qh hpm;obtain ⟨sep,hsep⟩:∃ s,s=m1.sep:=⟨_,rfl⟩;rw [← hsep] at hSp;replace hsep:=qh hsep;go_wp2_with fail;refine (hSp.out _ _ hS4.out).mono ?_;rintro z5 w5 ⟨nx,T2,rfl,hS5,hM5,n5,l5,r5,g5⟩;replace hS5:=qh hS5;replace hM5:=qh hM5;replace n5:=qh n5;replace l5:=qh l5;replace r5:=qh r5;replace g5:=qh g5
     have hpm6:((h1,m1.left nx)::(nx,m1.rightHalf)::(X++Y9++Z)).Perm ((hp,n)::((h1,m1.left nx)::(nx,m1.rightHalf)::(W1++W2++Z))):=by
      rw [hXW.out];have e1:(h1,m1.left nx)::(nx,m1.rightHalf)::(W1++(hp,n)::W2++Z)=((h1,m1.left nx)::(nx,m1.rightHalf)::W1)++(hp,n)::(W2++Z):=by simp
      rw [e1];refine List.perm_middle.trans (List.Perm.cons _ ?_);simp only [List.cons_append,List.append_assoc];exact List.Perm.refl _
     have hM6:=hM5.out.perm hpm6;obtain ⟨q2,nd2,hnF2,hbn2,hq2,hkd2⟩:=hM6.ent (List.mem_cons_self ..);simp only at hnF2 hbn2 hq2;have hk2:nd2.k=.inn n:=by have:=kd_inn hkd2 (by rw [hbn2];exact hnl.out);rw [hbn2] at this;exact this
     obtain ⟨_,_,hn5,ic,hcs2,hIn2⟩:=(hM6.am.ok _ hnF2).inn n hk2;have hicl:=hIn2.len;have hAt2:Hid (∀ W L,MS w0 w T W T2 L→W.heap[q2]?=some (.cells (.int .u64 hp.2::.bool false::(zlc++ic)).toArray 192)):=qh fun W L hS=>by have:=hS.am.at hnF2 hq2;rw [hcs2] at this;exact this
     have hInS:Hid (∀ W L,MS w0 w T W T2 L→InC W nd2.B ic (down n)):=qh fun W L hS=>by
      obtain ⟨_,_,_,ic',e,hI9⟩:=(hS.am.ok _ hnF2).inn n hk2;rw [hcs2] at e;injection e with _ e;have e:=List.append_cancel_left e;rw [e];exact hI9
     have hGt2:Hid (∀ W L,MS w0 w T W T2 L→Calls Tryz.prog 62 #[.pointer (some ⟨A,0,none⟩),.agg #[.int .i64 hp.1,.int .u64 hp.2]] W fun y W'=>y=.returned (.tuple #[.pointer (some ⟨q2,1,none⟩),.bool true])∧Below W.heap.size W W'):=qh fun W L hS=>by rw [hAe.out];exact hS.getQ hq2
     have hAd:Hid (∀ W,InC W nd2.B ic (down n)→Calls Tryz.prog 116 #[.agg ic.toArray,.string sep,.agg #[.int .i64 nx.1,.int .u64 nx.2]] W fun e w'=>∃ ic2 B3,e=.returned (.agg ic2.toArray)∧InC w' B3 ic2 (down (n.add sep nx))∧(∀ b,b∈B3→W.heap.size≤b)∧Below W.heap.size W w'):=qh fun W hI9=>by rw [hsep.out];exact hI9.add (g:=nx) (down_ok hno2.out hnl.out) (show n.keys.length≤1000 by omega) rfl hcv.out hnk.out
     have haddl:(n.add sep nx).keys.length=n.keys.length+1:=by show (n.keys.insertIdx (cut sep n.keys) sep).length=_;rw [List.length_insertIdx_of_le_length (cut_le _ _)]
     obtain ⟨zl,hzl⟩:∃ c,c=zlc:=⟨_,rfl⟩;have hzlen:zl.length=111:=by rw [hzl];exact zlc_len
     rw [← hzl] at hAt2;replace hpm6:=qh hpm6;replace hM6:=qh hM6;replace hnF2:=qh hnF2;replace hbn2:=qh hbn2;replace hq2:=qh hq2;replace hkd2:=qh hkd2;replace hk2:=qh hk2;replace hn5:=qh hn5;replace hcs2:=qh hcs2;replace hIn2:=qh hIn2;replace hicl:=qh hicl;replace haddl:=qh haddl;replace hzl:=qh hzl;replace hzlen:=qh hzlen;have hkz:(0:Int) < (k:Int):=by omega
     have hw1:IntKind.i64.wrap ((k:Int) - 1)=((k - 1:Nat):Int):=by rw [show ((k:Int) - 1)=((k - 1:Nat):Int) by omega];exact IntWalk.i64_in _ (by omega)
     have hkn1:k - 1 < N:=by omega
     have hkn2:((k - 1:Nat):Int) < (N:Int):=by omega
     have hkn3:(0:Int)≤((k - 1:Nat):Int):=by omega
     obtain ⟨k9,hk9⟩:∃ x,x=k - 1:=⟨_,rfl⟩;rw [← hk9] at hw1 hkn1 hkn2 hkn3 hpk2;replace hk9:=qh hk9;go_upto_region 9 with fail;have hS6:=hS5.out.box (.cells #[.int .i64 nx.1,.int .u64 nx.2] 71);generalize w5.alloc (.cells #[.int .i64 nx.1,.int .u64 nx.2] 71)=w6 at *;obtain ⟨NB,hNB⟩:∃ b,b=w5.heap.size:=⟨_,rfl⟩;rw [← hNB] at hS6 ⊢;replace hNB:=qh hNB;replace hS6:=qh hS6;have hSd:=hS6.out.drew;refine wp_region_late [] (S:=fun W'=>W'.cell? ⟨T.t,1,none⟩=some (.pointer (some ⟨A,0,none⟩))∧W'.heap[XB]?=some (.cells #[.int .i64 ((i:Nat):Int),.slice (some ⟨pa,0,none⟩) N pc,.int .i64 up.1,.int .u64 up.2,.int .u64 ((mk.s:Nat):Int),.int .u8 ((mk.c:Nat):Int)] 120)∧W'.heap[pa]?=some po) rfl (⟨by rw [hAe.out];exact hSd.tree,hSd.nth 2 rfl,hPk.out _ _ _ hSd⟩) (fun hHeld=>?_)
     try dsimp only at hHeld
     refine tkW 0 ?_;refine tkW 1 ?_;refine tkW 2 ?_;refine tkM 3 ?_ (hz:=by rintro w ⟨e1,e2,e3⟩;obtain ⟨d0,d1,d2,d3,d4,d5,d6,d7⟩:=box6 e2;obtain ⟨k0,k1,kl⟩:=hpc.out _ k9 hp e3 hpk2.out;exact zf);refine tkW 4 ?_;refine tkM 5 ?_ (hz:=by rintro w ⟨e1,e2,e3⟩;obtain ⟨d0,d1,d2,d3,d4,d5,d6,d7⟩:=box6 e2;obtain ⟨k0,k1,kl⟩:=hpc.out _ k9 hp e3 hpk2.out;exact zf);refine tkW 6 ?_;refine tkW 7 ?_;refine tkW 8 ?_;refine tkM 9 ?_ (hz:=by rintro w ⟨e1,e2,e3⟩;obtain ⟨d0,d1,d2,d3,d4,d5,d6,d7⟩:=box6 e2;obtain ⟨k0,k1,kl⟩:=hpc.out _ k9 hp e3 hpk2.out;exact zf);refine rdM 10 ?_;intro K hK;go_simp;go_at_call 62;refine (hGt2.out _ _ hSd).mono ?_;rintro z3 w7 ⟨rfl,hb⟩;have hS7:=hSd.below hb;clear hb;have hS1y:w7.cell? ⟨T.t,1,none⟩=some (.pointer (some ⟨A,0,none⟩))∧w7.heap[XB]?=some (.cells #[.int .i64 ((i:Nat):Int),.slice (some ⟨pa,0,none⟩) N pc,.int .i64 up.1,.int .u64 up.2,.int .u64 ((mk.s:Nat):Int),.int .u8 ((mk.c:Nat):Int)] 120)∧w7.heap[pa]?=some po:=⟨by rw [hAe.out];exact hS7.tree,hS7.nth 2 rfl,hPk.out _ _ _ hS7⟩;replace hS7:=qh hS7;go_wp2_with fail;refine hK.out _ _ (fun _ _=>hS1y) ?_;clear hHeld hK K;have hHeld:=hS1y;clear hS1y
     try simp only [Act.put,zs1,zs2,zs3]
     try simp only [Act.put]
     refine tkW 11 ?_;refine tkW 12 ?_;refine tkW 13 ?_;refine tkW 14 ?_;refine tkW 15 ?_;refine wpAnyM_done (by kernel_rfl) ?_ _
     try simp only [Exit.then]
     clear hHeld hSd hkn1 hkn2 hkn3;go_upto_region 10 with fail;have hSd:=hS7.out.drew;refine wp_region_late [10] (S:=fun W'=>W'.heap[q2]?=some (.cells (.int .u64 hp.2::.bool false::(zl++ic)).toArray 192)∧W'.heap[NB]?=some (.cells #[.int .i64 nx.1,.int .u64 nx.2] 71)) rfl (⟨hAt2.out _ _ hSd,hSd.nth 0 rfl⟩) (fun hHeld=>?_)
     try dsimp only at hHeld
     have hI9:=hInS.out _ _ hSd;generalize w7.drew=w7d at *;refine tkW 0 ?_;refine tkW 1 ?_;refine tkW 2 ?_;refine tkW 3 ?_;refine ykM 4 ?_ (hy:=yieldsIf_load_mid (by rfl) 98 (.tmp 66) rfl q2 113 (by rfl) ic _ (fun w hw=>inn_mid hw.1 hzlen.out) Tryz.underlying98 rfl (by rw [hicl.out];kernel_rfl));refine tkW 5 ?_;refine tkM 6 ?_ (hz:=by rintro w ⟨e1,e2⟩;obtain ⟨b0,b1,bq,bf0,bf1⟩:=box2 e2;exact zf);refine rdM 7 ?_;intro K hK;go_simp;go_at_call 116;refine (hAd.out _ hI9).mono ?_;rintro z3 w8 ⟨ic2,B3,rfl,hI2,hf2,hb⟩;obtain ⟨hS8,hro⟩:=hSd.marks hb B3 (fun x hx=>⟨hf2 x hx,hI2.lt x hx⟩);obtain ⟨T3,hT3⟩:∃ x,x={ T2 with ρ:=mkN T2.ρ w7d.heap.size B3 5 }:=⟨_,rfl⟩;rw [← hT3] at hS8;have hro2:∀ x,x∈B3→T3.ρ x=5:=by rw [hT3];exact hro
     have hm3:(hp,nd2)∈T3.F:=by rw [hT3];exact hnF2.out
     have e3:T3.F=T2.F∧T3.n=T2.n∧T3.ly=T2.ly∧T3.r=T2.r∧T3.free=T2.free:=by rw [hT3];exact ⟨rfl,rfl,rfl,rfl,rfl⟩
     have hq3:EntAt T3 hp q2:=by obtain ⟨y,hy⟩:=hq2.out.ex;exact ⟨y,by rw [hT3];exact hy⟩
     have hqB:q2 < w7d.heap.size:=heap_lt hHeld.1;have hc8:w8.heap[q2]?=some (.cells (.int .u64 hp.2::.bool false::(zl++ic)).toArray 192):=Below.heap' hb hHeld.1;clear hro hT3 hI9;have hS1y:w8.heap[q2]?=some (.cells (.int .u64 hp.2::.bool false::(zl++ic)).toArray 192)∧w8.heap[NB]?=some (.cells #[.int .i64 nx.1,.int .u64 nx.2] 71):=⟨hc8,hS8.nth 0 rfl⟩;clear hb;replace hS8:=qh hS8;replace hro2:=qh hro2;replace hm3:=qh hm3;replace e3:=qh e3;replace hq3:=qh hq3;replace hqB:=qh hqB;replace hI2:=qh hI2;replace hf2:=qh hf2;replace hc8:=qh hc8;go_wp2_with fail;refine hK.out _ _ (fun _ _=>hS1y) ?_;clear hHeld hK K;have hHeld:=hS1y;clear hS1y
     try simp only [Act.put,zs1,zs2,zs3]
     try simp only [Act.put]
     refine tkW 8 ?_;refine tkW 9 ?_;refine rdM 10 ?_;intro K hK;rw [if_pos (by rfl)];have hlen:ic2.length=8:=hI2.out.len;have th:=mn_there (o:=113) (n:=ic2.toArray.size) hc8.out (by simp [hzlen.out,hicl.out,hlen]);refine wp_store_mid 98 (.tmp 72) (.tmp 70) rfl q2 113 ic2.toArray (by rfl) (by rfl) th (by rw [List.size_toArray,hlen];kernel_rfl) (all_oneCell_toArray hI2.out.one) ?_;have hst9:=mn_set_inn hc8.out hzlen.out (vs:=ic2) (by rw [hlen,hicl.out]);obtain ⟨lo9,hlo9⟩:∃ lo,NodeOK lo (n.add sep nx):=by rw [hsep.out];exact (hst.out nx).node.1
     have hN8:NewND (w8.setCells q2 113 ic2) w7d.heap.size ⟨.inn (n.add sep nx),.bool false::(zlc++ic2),B3⟩:=(NewND.inn (base:=w7d.heap.size) (show (n.add sep nx).leaf=false from hnl.out) hlo9 (by rw [haddl.out];have:=hn4.out;omega) hI2.out hf2.out).upd (hb_upd w8 q2 113 ic2) (fun x hx=>by rw [List.mem_singleton.1 hx];exact hqB.out);obtain ⟨T4,hS9,ev9,f9,n9,l9,r9,g9⟩:=hS8.out.store (h:=hp) hm3.out hq3.out hN8 hro2.out (hb_upd w8 q2 113 ic2) (by rw [← hzl.out];exact hst9);have hM9:=(((hM6.out.same hS8.out.am e3.out.1)).set hS9.am f9 hN8.kd);clear hst9 th hN8;rw [show ic2.toArray.toList=ic2 from rfl];generalize w8.setCells q2 113 ic2=w9 at *;replace hS9:=qh hS9;replace ev9:=qh ev9;replace f9:=qh f9;replace n9:=qh n9;replace l9:=qh l9;replace r9:=qh r9;replace g9:=qh g9;replace hlen:=qh hlen;replace hM9:=qh hM9;replace hlo9:=qh hlo9;refine hK.out _ _ (fun h=>by cases h) ?_;clear hK K
     try simp only [Act.put,zs1,zs2,zs3]
     try simp only [Act.put]
     refine wpAnyM_done (by kernel_rfl) ?_ _
     try simp only [Exit.then]
     clear hSd;go_wp2_with fail;go_roundg k
     case rel =>
      have hSn:=hS9.out.sub (L':=[(XB,.cells #[.int .i64 ((i:Nat):Int),.slice (some ⟨pa,0,none⟩) N pc,.int .i64 up.1,.int .u64 up.2,.int .u64 ((mk.s:Nat):Int),.int .u8 ((mk.c:Nat):Int)] 120)]) (List.Sublist.cons _ (List.Sublist.cons _ (List.Sublist.refl _)));refine .inl ⟨k9,j+1,hp,n.add sep nx,A2,B2,_,T4,by have:=hk9.out;omega,rfl,by have:=hk9.out;have:=hkj.out;omega,hSn,⟨hM9.out.perm ?_,by rw [hsep.out];exact hst.out nx,fun h9=>?_,?_,?_,?_⟩⟩
      ·rw [hsep.out]
       refine List.Perm.trans ?_ ((hperm.out (h1,m1.left nx) (nx,m1.rightHalf) (hp,n.add m1.sep nx)).append_right Z);simp only [List.cons_append,List.append_assoc];exact List.Perm.refl _
      ·have e5:=hndst.out
       rw [haddl.out] at h9;rw [if_neg (by omega)] at e5;rw [g9.out,e3.out.2.2.2.2];have:=hroom.out;have:=g5.out;omega
      ·rw [n9.out,e3.out.2.1,n5.out];exact hI.out.n
      ·rw [l9.out,e3.out.2.2.1,l5.out];exact hI.out.ly
      ·rw [r9.out,e3.out.2.2.2.1,r5.out];exact hI.out.r
     case measure=>omega
  ·go_wp2_with fail
   refine bodyPost_end (v:=.tuple #[]) (by simp [results,Tryz.results69,go_sem]) rfl ⟨rfl,hF⟩
open Go.RowKit
theorem fset_at {F N:NF} {h:Hd} {x y:ND} (hn:((F++(h,x)::N).map (·.1)).Nodup):fset (F++(h,x)::N) h y=F++(h,y)::N:=by
 have h1:∀ L:NF,(∀ y,y∈L→y.1≠h)→fset L h y=L:=fun L hL=>by
  unfold fset;rw [List.map_congr_left (g:=id) (fun z hz=>by rw [if_neg (hL z hz)];rfl),List.map_id]
 rw [List.map_append,List.map_cons,List.nodup_append] at hn
 obtain ⟨_,hn2,hn3⟩:=hn
 rw [List.nodup_cons] at hn2
 have hA:fset F h y=F:=h1 F fun z hz e=>hn3 z.1 (List.mem_map_of_mem hz) h (by simp) e
 have hB:fset N h y=N:=h1 N fun z hz e=>hn2.1 (List.mem_map.2 ⟨z,hz,e⟩)
 have:fset (F++(h,x)::N) h y=fset F h y++fset ((h,x)::N) h y:=List.map_append
 rw [this,hA]
 show F++((if h=h then (h,y) else (h,x))::fset N h y)=_
 rw [if_pos rfl,hB]
theorem newLF_bn:newLF.bn=lf0:=rfl
def leafN (g:LF):ND:=⟨.leaf g,.bool true::(lfc g++zic),[]⟩
def BothE (w0 w:World) (T:TS) (a b v x:Str) (n:Nat) (e:Ending) (w':World):Prop :=
 ∃ (h:Hd) (hs:List Hd) (T':TS) (N:NF),e=.returned (hV h)∧hs.length=n∧AM w0 w' T'∧TEv w w' T T'∧T'.F=T.F++N∧(∀ p,(N.map fun z=>(z.1,z.2.bn))=flat (bothN p (bl a) (bl b) v x (h::hs)))∧(∀ z,z∈N→(∃ f,z.2.k=.leaf f)∨∃ b,z.2.k=.inn b) ∧
  T'.ly=T.ly+(n+1)∧T'.n=T.n∧T'.r=T.r∧T'.free.count true+(n+1)=T.free.count true
theorem slot_of (a v:Str) (ha:a.size≤100000000) (W:World):Calls Tryz.prog 63 #[.string a,.int .i64 0,.string v] W fun e w'=>e=.returned (.agg (slc (slOf (bl a) v)).toArray)∧Below W.heap.size W w':=mtSlot_any a v 0 (by omega) ha W
set_option maxRecDepth 100000 in
set_option maxHeartbeats 3000000 in
theorem both_zero {w0 : World} : ∀ (a b v x : Str) (w : World) (T : TS), alk (bl a) (bl b) = 0 → AM w0 w T → a.size ≤ 100000000 → b.size ≤ 100000000 → bl a ≠ bl b → bl a ≠ [] → bl b ≠ [] → 0 + 1 ≤ T.free.count true → T.ly + 0 ≤ 1000000000 →
    Calls Tryz.prog 67 #[.pointer (some ⟨T.t,0,none⟩),.string a,.string v,.string b,.string x] w (BothE w0 w T a b v x 0):=by
 intro a b v x w T hal hA ha hb hne hae hbe hfr hly
 have hmne:=alk_ne _ (bl a) (bl b) (Nat.le_refl _) hal hne
 have hSa:=qh fun W=>slot_of a v ha W
 have hSb:=qh fun W=>slot_of b x hb W
 have hoa:=slOf_ok (bl a) v
 have hob:=slOf_ok (bl b) x
 have hPa:=qh fun W=>lfPut_any newLF newLF_ok (slOf (bl a) v) hoa rfl (fun _=>by show 0 < 14;omega) W
 obtain ⟨ca,hca⟩:∃ c,c=slc (slOf (bl a) v):=⟨_,rfl⟩
 obtain ⟨cb,hcb⟩:∃ c,c=slc (slOf (bl b) x):=⟨_,rfl⟩
 rw [← hca] at hSa hPa
 rw [← hcb] at hSb
 rw [newLF_bn] at hPa
 replace hca:=qh hca
 replace hcb:=qh hcb
 replace hoa:=qh hoa
 replace hob:=qh hob
 replace hmne:=qh hmne
 obtain ⟨A,hAe⟩:∃ a,a=T.d.A.a:=⟨_,rfl⟩
 have htl:=block_lt_of_cell hA.cells.2.1
 have hS0:=(MS.start hA).box (.cells #[.int .i64 0,.int .u64 0] 71)
 obtain ⟨wa,hwa⟩:∃ W,W=w.alloc (.cells #[.int .i64 0,.int .u64 0] 71):=⟨_,rfl⟩
 rw [← hwa] at hS0
 have hLy:Hid (∀ W L,MS w0 w T W T L→Calls Tryz.prog 47 #[.pointer (some ⟨T.t,0,none⟩)] W fun e w'=>∃ g:Hd,e=.returned (.tuple #[.agg #[.int .i64 g.1,.int .u64 g.2],.int .i64 0])∧∃ T1,MS w0 w T w' T1 L∧T1.F=T.F++[(g,newN)]∧T1.n=T.n∧T1.ly=T.ly+1∧T1.r=T.r∧T1.free.count true+1=T.free.count true):=qh fun W L hS=>by
  refine (hS.am.layer (List.count_pos_iff.1 (by omega)) (by omega)).mono ?_;rintro e w' ⟨g,_,rfl,T1,a1,a2,a3,a4,a5,a6,a7⟩;exact ⟨g,rfl,T1,hS.call a1 a2,a3,a4,a5,a6,a7⟩
 have hAk:=qh fun W=>mtAlike_any a b ha hb W
 rw [hal] at hAk
 replace hwa:=qh hwa
 replace hS0:=qh hS0
 replace hAe:=qh hAe
 replace hA:=qh hA
 go_enter Tryz.func67,Tryz.ntmps67
 obtain ⟨RB,hRB⟩:∃ b,b=w.heap.size:=⟨_,rfl⟩
 rw [← hRB] at hS0
 replace hRB:=qh hRB
 go_wp2_with fail
 rw [← hwa.out,← hRB.out]
 refine (hLy.out _ _ hS0.out).mono ?_
 rintro z1 w1 ⟨g,rfl,T1,hS1,f1,n1,l1,r1,c1⟩
 replace hS1:=qh hS1
 replace f1:=qh f1
 replace n1:=qh n1
 replace l1:=qh l1
 replace r1:=qh r1
 replace c1:=qh c1
 have hmg:(g,newN)∈T1.F:=by rw [f1.out];simp
 obtain ⟨q,hq,_⟩:=hS1.out.getE hmg
 have hGt:Hid (∀ W L,MS w0 w T W T1 L→Calls Tryz.prog 62 #[.pointer (some ⟨A,0,none⟩),.agg #[.int .i64 g.1,.int .u64 g.2]] W fun y W'=>y=.returned (.tuple #[.pointer (some ⟨q,1,none⟩),.bool true])∧Below W.heap.size W W'):=qh fun W L hS=>by rw [hAe.out];exact hS.getQ hq
 obtain ⟨cs,hcs⟩:∃ c,c=lfc newLF:=⟨_,rfl⟩
 obtain ⟨y,hy⟩:∃ c,c=zic:=⟨_,rfl⟩
 have hcl:cs.length=111:=by rw [hcs];exact lfc_len newLF_ok.S
 have hylen:y.length=8:=by rw [hy];rfl
 have hAt:Hid (∀ W T2 L,MS w0 w T W T2 L→(g,newN)∈T2.F→EntAt T2 g q→W.heap[q]?=some (.cells (.int .u64 g.2::.bool true::(cs++y)).toArray 192)):=qh fun W T2 L hS hm hq=>by have:=hS.am.at hm hq;rw [show newN.cs=.bool true::(lfc newLF++zic) from rfl,← hcs,← hy] at this;exact this
 replace hmg:=qh hmg
 replace hq:=qh hq
 replace hcs:=qh hcs
 replace hy:=qh hy
 replace hcl:=qh hcl
 replace hylen:=qh hylen
 go_upto_region 2 with fail
 have hS2:=hS1.out.box (.cells #[.int .i64 g.1,.int .u64 g.2] 71)
 generalize w1.alloc (.cells #[.int .i64 g.1,.int .u64 g.2] 71)=w2 at *
 obtain ⟨HB,hHB⟩:∃ b,b=w1.heap.size:=⟨_,rfl⟩
 rw [← hHB] at hS2 ⊢
 replace hHB:=qh hHB
 replace hS2:=qh hS2
 have hSd:=hS2.out.drew
 refine wp_region_late [] (S:=fun W'=>W'.cell? ⟨T.t,1,none⟩=some (.pointer (some ⟨A,0,none⟩))∧W'.heap[HB]?=some (.cells #[.int .i64 g.1,.int .u64 g.2] 71)) rfl (⟨by rw [hAe.out];exact hSd.tree,hSd.nth 0 rfl⟩) (fun hHeld=>?_)
 try dsimp only at hHeld
 refine tkW 0 ?_
 refine tkW 1 ?_
 refine tkW 2 ?_
 refine tkM 3 ?_ (hz:=by rintro w ⟨e1,e2⟩;obtain ⟨b0,b1,bq,bf0,bf1⟩:=box2 e2;exact zf)
 refine tkM 4 ?_ (hz:=by rintro w ⟨e1,e2⟩;obtain ⟨b0,b1,bq,bf0,bf1⟩:=box2 e2;exact zf)
 refine rdM 5 ?_
 intro K hK
 go_simp
 go_at_call 62
 refine (hGt.out _ _ hSd).mono ?_
 rintro z3 w3 ⟨rfl,hb9⟩
 have hSc:=hSd.below hb9
 clear hb9
 have hS9y:w3.cell? ⟨T.t,1,none⟩=some (.pointer (some ⟨A,0,none⟩))∧w3.heap[HB]?=some (.cells #[.int .i64 g.1,.int .u64 g.2] 71):=⟨by rw [hAe.out];exact hSc.tree,hSc.nth 0 rfl⟩
 replace hSc:=qh hSc
 go_wp2_with fail
 refine hK.out _ _ (fun _ _=>hS9y) ?_
 clear hHeld hK K
 have hHeld:=hS9y
 clear hS9y
 try simp only [Act.put,zs1,zs2,zs3]
 try simp only [Act.put]
 refine tkW 6 ?_
 refine tkW 7 ?_
 refine tkW 8 ?_
 refine tkW 9 ?_
 refine tkW 10 ?_
 refine wpAnyM_done (by kernel_rfl) ?_ _
 try simp only [Exit.then]
 clear hHeld hSd
 go_wp2_with fail
 refine (hAk.out _).mono ?_
 rintro z4 w4 ⟨rfl,hb9⟩
 have hS4:=qh (hSc.out.below hb9)
 clear hb9
 rw [← hcs.out] at hPa
 go_upto_region 6 with fail
 have hSd:=hS4.out.drew
 refine wp_region_late [15] (S:=fun W'=>W'.heap[q]?=some (.cells (.int .u64 g.2::.bool true::(cs++y)).toArray 192)) rfl (hAt.out _ _ _ hSd hmg.out hq.out) (fun hHeld=>?_)
 try dsimp only at hHeld
 refine tkW 0 ?_
 refine tkW 1 ?_
 refine tkW 2 ?_
 refine tkW 3 ?_
 refine ykM 4 ?_ (hy:=yieldsIf_load_mid (by rfl) 95 (.tmp 61) rfl q 2 (by rfl) cs _ (fun w hw=>range_mid hw hcl.out) Tryz.underlying95 rfl (by rw [hcl.out];kernel_rfl))
 refine tkW 5 ?_
 refine tkW 6 ?_
 refine rdM 7 ?_
 intro K hK
 go_simp
 go_at_call 63
 refine (hSa.out _).mono ?_
 rintro z5 w5 ⟨rfl,hb9⟩
 have hSe6:=hSd.below hb9
 clear hb9
 have hS9y:w5.heap[q]?=some (.cells (.int .u64 g.2::.bool true::(cs++y)).toArray 192):=hAt.out _ _ _ hSe6 hmg.out hq.out
 replace hSe6:=qh hSe6
 go_wp2_with fail
 refine hK.out _ _ (fun _ _=>hS9y) ?_
 clear hHeld hK K
 have hHeld:=hS9y
 clear hS9y
 try simp only [Act.put,zs1,zs2,zs3]
 try simp only [Act.put]
 refine rdM 8 ?_
 intro K hK
 go_simp
 go_at_call 64
 refine (hPa.out _).mono ?_
 rintro z6 w6 ⟨cg,co,f,o,rfl,hcg,hco,hf,hfb,_,hb9⟩
 have hSf6:=hSe6.out.below hb9
 replace hcg:=qh hcg
 replace hf:=qh hf
 replace hfb:=qh hfb
 clear hb9
 have hS9y:w6.heap[q]?=some (.cells (.int .u64 g.2::.bool true::(cs++y)).toArray 192):=hAt.out _ _ _ hSf6 hmg.out hq.out
 replace hSf6:=qh hSf6
 go_wp2_with fail
 refine hK.out _ _ (fun _ _=>hS9y) ?_
 clear hHeld hK K
 have hHeld:=hS9y
 clear hS9y
 try simp only [Act.put,zs1,zs2,zs3]
 try simp only [Act.put]
 refine tkW 9 ?_
 refine tkW 10 ?_
 refine tkW 11 ?_
 refine tkW 12 ?_
 refine tkW 13 ?_
 refine tkW 14 ?_
 refine rdM 15 ?_
 intro K hK
 rw [if_pos (by rfl)]
 have hc:=hAt.out _ _ _ hSf6.out hmg.out hq.out
 have hlen6:cg.length=111:=by rw [hcg.out];exact lfc_len hf.out.S
 have th:=mn_there (o:=2) (n:=cg.toArray.size) hc (by simp [hcl.out,hylen.out,hlen6])
 refine wp_store_mid 95 (.tmp 71) (.tmp 67) rfl q 2 cg.toArray (by rfl) (by rfl) th (by rw [List.size_toArray,hlen6];kernel_rfl) (by rw [hcg.out];exact lfc_one f) ?_
 have hst:=mn_set_leaf hc (vs:=cg) (by rw [hlen6,hcl.out])
 have hN8:NewND (w6.setCells q 2 cg) 0 (leafN f):=NewND.leaf hf.out
 obtain ⟨T2,hSg6,ev6,f6,n6,l6,r6,g6⟩:=hSf6.out.store (x:=leafN f) hmg.out hq.out hN8 (fun b hb=>by cases hb) (hb_upd w6 q 2 cg) (by rw [show (leafN f).cs=.bool true::(lfc f++zic) from rfl,← hcg.out,← hy.out];exact hst)
 clear hst th hc hN8
 rw [show cg.toArray.toList=cg from rfl]
 generalize w6.setCells q 2 cg=w7 at *
 replace hSg6:=qh hSg6
 replace ev6:=qh ev6
 replace f6:=qh f6
 replace n6:=qh n6
 replace l6:=qh l6
 replace r6:=qh r6
 replace g6:=qh g6
 replace hlen6:=qh hlen6
 refine hK.out _ _ (fun h=>by cases h) ?_
 clear hK K
 try simp only [Act.put,zs1,zs2,zs3]
 try simp only [Act.put]
 refine wpAnyM_done (by kernel_rfl) ?_ _
 try simp only [Exit.then]
 clear hSd
 have hfk:f.bn.keys.length≤1:=by rw [hfb.out,(put_ends _ _ _).2.2.2.2.2];show 0+_≤1;split <;> omega
 have hfbd:f.bnd=false:=by show f.bn.bnd=false;rw [hfb.out,(put_ends _ _ _).2.1];rfl
 have hPb:=qh fun W=>lfPut_any f hf.out (slOf (bl b) x) hob.out (by unfold LF.cov;rw [hfbd];rfl) (fun _=>by rw [← hf.out.klen];omega) W
 rw [← hcb.out,← hcg.out,hfb.out] at hPb
 clear hfk hfbd
 have hq7:=qh (hq.out.ev ev6.out)
 have hm7:(g,leafN f)∈T2.F:=by rw [f6.out,mem_fset ⟨newN,hmg.out⟩];exact .inl rfl
 replace hm7:=qh hm7
 have hAt7:Hid (∀ W L,MS w0 w T W T2 L→W.heap[q]?=some (.cells (.int .u64 g.2::.bool true::(cg++y)).toArray 192)):=qh fun W L hS=>by have:=hS.am.at hm7.out hq7.out;rw [show (leafN f).cs=.bool true::(lfc f++zic) from rfl,← hcg.out,← hy.out] at this;exact this
 go_upto_region 7 with fail
 have hSd:=hSg6.out.drew
 refine wp_region_late [15] (S:=fun W'=>W'.heap[q]?=some (.cells (.int .u64 g.2::.bool true::(cg++y)).toArray 192)) rfl (hAt7.out _ _ hSd) (fun hHeld=>?_)
 try dsimp only at hHeld
 refine tkW 0 ?_
 refine tkW 1 ?_
 refine tkW 2 ?_
 refine tkW 3 ?_
 refine ykM 4 ?_ (hy:=yieldsIf_load_mid (by rfl) 95 (.tmp 76) rfl q 2 (by rfl) cg _ (fun w hw=>range_mid hw hlen6.out) Tryz.underlying95 rfl (by rw [hlen6.out];kernel_rfl))
 refine tkW 5 ?_
 refine tkW 6 ?_
 refine rdM 7 ?_
 intro K hK
 go_simp
 go_at_call 63
 refine (hSb.out _).mono ?_
 rintro z5 w8 ⟨rfl,hb9⟩
 have hSe7:=hSd.below hb9
 clear hb9
 have hS9y:w8.heap[q]?=some (.cells (.int .u64 g.2::.bool true::(cg++y)).toArray 192):=hAt7.out _ _ hSe7
 replace hSe7:=qh hSe7
 go_wp2_with fail
 refine hK.out _ _ (fun _ _=>hS9y) ?_
 clear hHeld hK K
 have hHeld:=hS9y
 clear hS9y
 try simp only [Act.put,zs1,zs2,zs3]
 try simp only [Act.put]
 refine rdM 8 ?_
 intro K hK
 go_simp
 go_at_call 64
 refine (hPb.out _).mono ?_
 rintro z6 w9 ⟨ch,co2,f2,o2,rfl,hch,hco2,hf2,hfb2,_,hb9⟩
 have hSf7:=hSe7.out.below hb9
 replace hch:=qh hch
 replace hf2:=qh hf2
 replace hfb2:=qh hfb2
 clear hb9
 have hS9y:w9.heap[q]?=some (.cells (.int .u64 g.2::.bool true::(cg++y)).toArray 192):=hAt7.out _ _ hSf7
 replace hSf7:=qh hSf7
 go_wp2_with fail
 refine hK.out _ _ (fun _ _=>hS9y) ?_
 clear hHeld hK K
 have hHeld:=hS9y
 clear hS9y
 try simp only [Act.put,zs1,zs2,zs3]
 try simp only [Act.put]
 refine tkW 9 ?_
 refine tkW 10 ?_
 refine tkW 11 ?_
 refine tkW 12 ?_
 refine tkW 13 ?_
 refine tkW 14 ?_
 refine rdM 15 ?_
 intro K hK
 rw [if_pos (by rfl)]
 have hc:=hAt7.out _ _ hSf7.out
 have hlen7:ch.length=111:=by rw [hch.out];exact lfc_len hf2.out.S
 have th:=mn_there (o:=2) (n:=ch.toArray.size) hc (by simp [hlen6.out,hylen.out,hlen7])
 refine wp_store_mid 95 (.tmp 86) (.tmp 82) rfl q 2 ch.toArray (by rfl) (by rfl) th (by rw [List.size_toArray,hlen7];kernel_rfl) (by rw [hch.out];exact lfc_one f2) ?_
 have hst:=mn_set_leaf hc (vs:=ch) (by rw [hlen7,hlen6.out])
 have hN8:NewND (w9.setCells q 2 ch) 0 (leafN f2):=NewND.leaf hf2.out
 obtain ⟨T3,hSg7,ev7,f7,n7,l7,r7,g7⟩:=hSf7.out.store (x:=leafN f2) hm7.out hq7.out hN8 (fun b hb=>by cases hb) (hb_upd w9 q 2 ch) (by rw [show (leafN f2).cs=.bool true::(lfc f2++zic) from rfl,← hch.out,← hy.out];exact hst)
 clear hst th hc hN8
 rw [show ch.toArray.toList=ch from rfl]
 generalize w9.setCells q 2 ch=w10 at *
 replace hSg7:=qh hSg7
 replace ev7:=qh ev7
 replace f7:=qh f7
 replace n7:=qh n7
 replace l7:=qh l7
 replace r7:=qh r7
 replace g7:=qh g7
 replace hlen7:=qh hlen7
 refine hK.out _ _ (fun h=>by cases h) ?_
 clear hK K
 try simp only [Act.put,zs1,zs2,zs3]
 try simp only [Act.put]
 refine wpAnyM_done (by kernel_rfl) ?_ _
 try simp only [Exit.then]
 clear hSd
 have hSh:=hSg7.out.rot2.set2 (.int .i64 g.1) (.int .u64 g.2)
 obtain ⟨b0,b1,bq,bf0,bf1⟩:=box2 (hSg7.out.nth 0 rfl)
 obtain ⟨d0,d1,dq,df0,df1⟩:=box2 (hSg7.out.nth 1 rfl)
 have hld:=qh (run_loadVar_mid (P:=Tryz.prog) _ RB 0 71 [.int .i64 g.1,.int .u64 g.2] _ (range_of_heap (hSh.nth 0 rfl)) Tryz.underlying71 rfl (by kernel_rfl))
 replace hSh:=qh hSh
 go_wp2_with fail
 have hF3:T3.F=T.F++[(g,leafN f2)]:=by
  have hnd:=hSg7.out.am.ndf;rw [f7.out,fset_fst,f6.out,fset_fst,f1.out] at hnd;rw [f7.out,f6.out,f1.out,fset_at hnd,fset_at (by rw [List.map_append,List.map_cons] at hnd ⊢;exact hnd)]
 refine bodyPost_ret (v:=.agg #[.int .i64 g.1,.int .u64 g.2]) (by simp [results,Tryz.results67,asAddr,hld.out]) rfl ⟨g,[],T3,[(g,leafN f2)],rfl,rfl,hSh.out.am,hSh.out.ev,hF3,fun p=>?_,fun z hz=>?_,?_,?_,?_,?_⟩
 ·show [(g,f2.bn)]=[(g,two (bl a) (bl b) v x)]
  rw [hfb2.out];rfl
 ·rw [List.mem_singleton.1 hz];exact .inl ⟨f2,rfl⟩
 ·rw [l7.out,l6.out,l1.out]
 ·rw [n7.out,n6.out,n1.out]
 ·rw [r7.out,r6.out,r1.out]
 ·rw [g7.out,g6.out];exact c1.out
set_option maxRecDepth 100000 in
set_option maxHeartbeats 3000000 in
theorem both_succ {w0 : World} (n : Nat) (IH : ∀ (a b v x : Str) (w : World) (T : TS), alk (bl a) (bl b) = n → AM w0 w T → a.size ≤ 100000000 → b.size ≤ 100000000 → bl a ≠ bl b → bl a ≠ [] → bl b ≠ [] → n + 1 ≤ T.free.count true → T.ly + n ≤ 1000000000 →
    Calls Tryz.prog 67 #[.pointer (some ⟨T.t,0,none⟩),.string a,.string v,.string b,.string x] w (BothE w0 w T a b v x n)):∀ (a b v x:Str) (w:World) (T:TS),alk (bl a) (bl b)=(n+1)→AM w0 w T→a.size≤100000000→b.size≤100000000→bl a≠bl b→bl a≠[]→bl b≠[]→(n+1)+1≤T.free.count true→T.ly+(n+1)≤1000000000 →
    Calls Tryz.prog 67 #[.pointer (some ⟨T.t,0,none⟩),.string a,.string v,.string b,.string x] w (BothE w0 w T a b v x (n+1)):=by
 intro a b v x w T hal hA ha hb hne hae hbe hfr hly
 have hst:8 < (bl a).length∧8 < (bl b).length∧(bl a).take 8=(bl b).take 8:=Classical.byContradiction fun hn=>by rw [alk_stop hn] at hal;cases hal
 have hal2:alk (bl (bs ((bl a).drop 8))) (bl (bs ((bl b).drop 8)))=n:=by rw [bl_bs,bl_bs];exact Nat.succ.inj ((alk_step hst).symm.trans hal)
 have hasz:(bl a).length=a.size:=rfl
 have hbsz:(bl b).length=b.size:=rfl
 have hsa:(bs ((bl a).drop 8)).size≤100000000:=by have:(bs ((bl a).drop 8)).size=((bl a).drop 8).length:=(by rw [← bl_bs ((bl a).drop 8)];rfl);rw [this,List.length_drop];omega
 have hsb:(bs ((bl b).drop 8)).size≤100000000:=by have:(bs ((bl b).drop 8)).size=((bl b).drop 8).length:=(by rw [← bl_bs ((bl b).drop 8)];rfl);rw [this,List.length_drop];omega
 have hn2:bl (bs ((bl a).drop 8))≠bl (bs ((bl b).drop 8)):=fun e=>by rw [bl_bs,bl_bs] at e;exact hne (by rw [← List.take_append_drop 8 (bl a),hst.2.2,e,List.take_append_drop])
 have hna:bl (bs ((bl a).drop 8))≠[]:=fun e=>by rw [bl_bs] at e;have:=List.drop_eq_nil_iff.1 e;omega
 have hnb:bl (bs ((bl b).drop 8))≠[]:=fun e=>by rw [bl_bs] at e;have:=List.drop_eq_nil_iff.1 e;omega
 have hMo:Hid (∀ W,Calls Tryz.prog 51 #[.string a,.int .i64 0] W fun e w'=>e=.returned (mkV (mkOf (bl a)))∧Below W.heap.size W w'):=qh fun W=>mkOf_any a 0 (by omega) (by omega) W
 unfold mkV at hMo
 have hPd:=qh fun (g2:Hd) W=>lfPut_any newLF newLF_ok (slDp (bl a) g2) (slDp_ok hst.1 g2) rfl (fun _=>by show 0 < 14;omega) W
 rw [newLF_bn] at hPd
 unfold slc slDp at hPd
 simp only at hPd
 obtain ⟨ma,hma⟩:∃ m,m=mkOf (bl a):=⟨_,rfl⟩
 rw [← hma] at hMo hPd
 have hxd:=qh (extract_drop a 8)
 have hyd:=qh (extract_drop b 8)
 have g1:¬ (a.size:Int) < 8:=by omega
 have g2:¬ (b.size:Int) < 8:=by omega
 have g3:(8:Int)≤(a.size:Int):=by omega
 have g4:(8:Int)≤(b.size:Int):=by omega
 replace hma:=qh hma
 replace hst:=qh hst
 obtain ⟨A,hAe⟩:∃ a,a=T.d.A.a:=⟨_,rfl⟩
 have htl:=block_lt_of_cell hA.cells.2.1
 have hS0:=(MS.start hA).box (.cells #[.int .i64 0,.int .u64 0] 71)
 obtain ⟨wa,hwa⟩:∃ W,W=w.alloc (.cells #[.int .i64 0,.int .u64 0] 71):=⟨_,rfl⟩
 rw [← hwa] at hS0
 have hLy:Hid (∀ W L,MS w0 w T W T L→Calls Tryz.prog 47 #[.pointer (some ⟨T.t,0,none⟩)] W fun e w'=>∃ g:Hd,e=.returned (.tuple #[.agg #[.int .i64 g.1,.int .u64 g.2],.int .i64 0])∧∃ T1,MS w0 w T w' T1 L∧T1.F=T.F++[(g,newN)]∧T1.n=T.n∧T1.ly=T.ly+1∧T1.r=T.r∧T1.free.count true+1=T.free.count true):=qh fun W L hS=>by
  refine (hS.am.layer (List.count_pos_iff.1 (by omega)) (by omega)).mono ?_;rintro e w' ⟨g,_,rfl,T1,a1,a2,a3,a4,a5,a6,a7⟩;exact ⟨g,rfl,T1,hS.call a1 a2,a3,a4,a5,a6,a7⟩
 have hAk:=qh fun W=>mtAlike_any a b ha hb W
 rw [hal] at hAk
 replace hwa:=qh hwa
 replace hS0:=qh hS0
 replace hAe:=qh hAe
 replace hA:=qh hA
 go_enter Tryz.func67,Tryz.ntmps67
 obtain ⟨RB,hRB⟩:∃ b,b=w.heap.size:=⟨_,rfl⟩
 rw [← hRB] at hS0
 replace hRB:=qh hRB
 go_wp2_with fail
 rw [← hwa.out,← hRB.out]
 refine (hLy.out _ _ hS0.out).mono ?_
 rintro z1 w1 ⟨g,rfl,T1,hS1,f1,n1,l1,r1,c1⟩
 replace hS1:=qh hS1
 replace f1:=qh f1
 replace n1:=qh n1
 replace l1:=qh l1
 replace r1:=qh r1
 replace c1:=qh c1
 have hmg:(g,newN)∈T1.F:=by rw [f1.out];simp
 obtain ⟨q,hq,_⟩:=hS1.out.getE hmg
 have hGt:Hid (∀ W L,MS w0 w T W T1 L→Calls Tryz.prog 62 #[.pointer (some ⟨A,0,none⟩),.agg #[.int .i64 g.1,.int .u64 g.2]] W fun y W'=>y=.returned (.tuple #[.pointer (some ⟨q,1,none⟩),.bool true])∧Below W.heap.size W W'):=qh fun W L hS=>by rw [hAe.out];exact hS.getQ hq
 obtain ⟨cs,hcs⟩:∃ c,c=lfc newLF:=⟨_,rfl⟩
 obtain ⟨y,hy⟩:∃ c,c=zic:=⟨_,rfl⟩
 have hcl:cs.length=111:=by rw [hcs];exact lfc_len newLF_ok.S
 have hylen:y.length=8:=by rw [hy];rfl
 have hAt:Hid (∀ W T2 L,MS w0 w T W T2 L→(g,newN)∈T2.F→EntAt T2 g q→W.heap[q]?=some (.cells (.int .u64 g.2::.bool true::(cs++y)).toArray 192)):=qh fun W T2 L hS hm hq=>by have:=hS.am.at hm hq;rw [show newN.cs=.bool true::(lfc newLF++zic) from rfl,← hcs,← hy] at this;exact this
 replace hmg:=qh hmg
 replace hq:=qh hq
 replace hcs:=qh hcs
 replace hy:=qh hy
 replace hcl:=qh hcl
 replace hylen:=qh hylen
 go_upto_region 2 with fail
 have hS2:=hS1.out.box (.cells #[.int .i64 g.1,.int .u64 g.2] 71)
 generalize w1.alloc (.cells #[.int .i64 g.1,.int .u64 g.2] 71)=w2 at *
 obtain ⟨HB,hHB⟩:∃ b,b=w1.heap.size:=⟨_,rfl⟩
 rw [← hHB] at hS2 ⊢
 replace hHB:=qh hHB
 replace hS2:=qh hS2
 have hSd:=hS2.out.drew
 refine wp_region_late [] (S:=fun W'=>W'.cell? ⟨T.t,1,none⟩=some (.pointer (some ⟨A,0,none⟩))∧W'.heap[HB]?=some (.cells #[.int .i64 g.1,.int .u64 g.2] 71)) rfl (⟨by rw [hAe.out];exact hSd.tree,hSd.nth 0 rfl⟩) (fun hHeld=>?_)
 try dsimp only at hHeld
 refine tkW 0 ?_
 refine tkW 1 ?_
 refine tkW 2 ?_
 refine tkM 3 ?_ (hz:=by rintro w ⟨e1,e2⟩;obtain ⟨b0,b1,bq,bf0,bf1⟩:=box2 e2;exact zf)
 refine tkM 4 ?_ (hz:=by rintro w ⟨e1,e2⟩;obtain ⟨b0,b1,bq,bf0,bf1⟩:=box2 e2;exact zf)
 refine rdM 5 ?_
 intro K hK
 go_simp
 go_at_call 62
 refine (hGt.out _ _ hSd).mono ?_
 rintro z3 w3 ⟨rfl,hb9⟩
 have hSc:=hSd.below hb9
 clear hb9
 have hS9y:w3.cell? ⟨T.t,1,none⟩=some (.pointer (some ⟨A,0,none⟩))∧w3.heap[HB]?=some (.cells #[.int .i64 g.1,.int .u64 g.2] 71):=⟨by rw [hAe.out];exact hSc.tree,hSc.nth 0 rfl⟩
 replace hSc:=qh hSc
 go_wp2_with fail
 refine hK.out _ _ (fun _ _=>hS9y) ?_
 clear hHeld hK K
 have hHeld:=hS9y
 clear hS9y
 try simp only [Act.put,zs1,zs2,zs3]
 try simp only [Act.put]
 refine tkW 6 ?_
 refine tkW 7 ?_
 refine tkW 8 ?_
 refine tkW 9 ?_
 refine tkW 10 ?_
 refine wpAnyM_done (by kernel_rfl) ?_ _
 try simp only [Exit.then]
 clear hHeld hSd
 go_wp2_with fail
 refine (hAk.out _).mono ?_
 rintro z4 w4 ⟨rfl,hb9⟩
 have hS4:=qh (hSc.out.below hb9)
 clear hb9
 rw [← hcs.out] at hPd
 have hBo:Hid (∀ W L,MS w0 w T W T1 L→Calls Tryz.prog 67 #[.pointer (some ⟨T.t,0,none⟩),.string (bs ((bl a).drop 8)),.string v,.string (bs ((bl b).drop 8)),.string x] W fun e w'=>∃ (h2:Hd) (hs2:List Hd) (T2:TS) (N:NF),e=.returned (.agg #[.int .i64 h2.1,.int .u64 h2.2])∧hs2.length=n∧MS w0 w T w' T2 L∧TEv W w' T1 T2∧T2.F=T1.F++N∧(∀ p,(N.map fun z=>(z.1,z.2.bn))=flat (bothN p ((bl a).drop 8) ((bl b).drop 8) v x (h2::hs2)))∧(∀ z,z∈N→(∃ f,z.2.k=.leaf f)∨∃ b,z.2.k=.inn b)∧T2.ly=T1.ly+(n+1)∧T2.n=T1.n∧T2.r=T1.r∧T2.free.count true+(n+1)=T1.free.count true):=qh fun W L hS=>by
  have:=IH _ _ v x W T1 hal2 hS.am hsa hsb hn2 hna hnb (by have:=c1.out;omega) (by have:=l1.out;omega);rw [hS.ev.t] at this;refine this.mono ?_;rintro e w' ⟨h2,hs2,T2,N,rfl,a1,a2,a3,a4,a5,a6,a7,a8,a9,a10⟩;rw [bl_bs,bl_bs] at a5;exact ⟨h2,hs2,T2,N,rfl,a1,hS.call a2 a3,a3,a4,a5,a6,a7,a8,a9,a10⟩
 clear hal2 hsa hsb hn2 hna hnb hasz hbsz
 go_upto_region 4 with fail
 have hSd:=hS4.out.drew
 refine wp_region_late [23] (S:=fun W'=>W'.heap[q]?=some (.cells (.int .u64 g.2::.bool true::(cs++y)).toArray 192)) rfl (hAt.out _ _ _ hSd hmg.out hq.out) (fun hHeld=>?_)
 try dsimp only at hHeld
 refine tkW 0 ?_
 refine tkW 1 ?_
 refine tkW 2 ?_
 refine tkW 3 ?_
 refine ykM 4 ?_ (hy:=yieldsIf_load_mid (by rfl) 95 (.tmp 37) rfl q 2 (by rfl) cs _ (fun w hw=>range_mid hw hcl.out) Tryz.underlying95 rfl (by rw [hcl.out];kernel_rfl))
 refine tkW 5 ?_
 refine tkW 7 ?_
 refine tkW 8 ?_
 refine tkW 9 ?_
 refine tkW 10 ?_
 refine tkW 11 ?_
 refine tkW 12 ?_
 refine tkW 13 ?_
 refine rdM 6 ?_
 intro K hK
 go_simp
 go_at_call 51
 refine (hMo.out _).mono ?_
 rintro z5 w5 ⟨rfl,hb9⟩
 have hSe:=hSd.below hb9
 clear hb9
 have hS9y:w5.heap[q]?=some (.cells (.int .u64 g.2::.bool true::(cs++y)).toArray 192):=hAt.out _ _ _ hSe hmg.out hq.out
 replace hSe:=qh hSe
 go_wp2_with fail
 refine hK.out _ _ (fun _ _=>hS9y) ?_
 clear hHeld hK K
 have hHeld:=hS9y
 clear hS9y
 try simp only [Act.put,zs1,zs2,zs3]
 try simp only [Act.put]
 refine rdM 14 ?_
 intro K hK
 go_simp
 rw [hxd.out,hyd.out]
 go_at_call 67
 refine (hBo.out _ _ hSe.out).mono ?_
 rintro z6 w6 ⟨h2,hs2,T2,N,rfl,hs2l,hSf,ev2,f2,hN2,hkN,l2,n2,r2,c2⟩
 have hq2:=hq.out.ev ev2
 have hm2:(g,newN)∈T2.F:=by rw [f2];exact List.mem_append_left _ hmg.out
 have hS9y:w6.heap[q]?=some (.cells (.int .u64 g.2::.bool true::(cs++y)).toArray 192):=hAt.out _ _ _ hSf hm2 hq2
 replace hSf:=qh hSf
 replace ev2:=qh ev2
 replace f2:=qh f2
 replace hN2:=qh hN2
 replace hkN:=qh hkN
 replace l2:=qh l2
 replace n2:=qh n2
 replace r2:=qh r2
 replace c2:=qh c2
 replace hq2:=qh hq2
 replace hm2:=qh hm2
 replace hs2l:=qh hs2l
 go_wp2_with fail
 refine hK.out _ _ (fun _ _=>hS9y) ?_
 clear hHeld hK K
 have hHeld:=hS9y
 clear hS9y
 try simp only [Act.put,zs1,zs2,zs3]
 try simp only [Act.put]
 refine tkW 15 ?_
 refine rdM 16 ?_
 intro K hK
 go_simp
 go_at_call 64
 refine (hPd.out h2 _).mono ?_
 rintro z7 w7 ⟨cg,co,f,o,rfl,hcg,hco,hf,hfb,_,hb9⟩
 have hSg:=hSf.out.below hb9
 clear hb9
 have hS9y:w7.heap[q]?=some (.cells (.int .u64 g.2::.bool true::(cs++y)).toArray 192):=hAt.out _ _ _ hSg hm2.out hq2.out
 replace hSg:=qh hSg
 replace hcg:=qh hcg
 replace hco:=qh hco
 replace hf:=qh hf
 replace hfb:=qh hfb
 go_wp2_with fail
 refine hK.out _ _ (fun _ _=>hS9y) ?_
 clear hHeld hK K
 have hHeld:=hS9y
 clear hS9y
 try simp only [Act.put,zs1,zs2,zs3]
 try simp only [Act.put]
 refine tkW 17 ?_
 refine tkW 18 ?_
 refine tkW 19 ?_
 refine tkW 20 ?_
 refine tkW 21 ?_
 refine tkW 22 ?_
 refine rdM 23 ?_
 intro K hK
 rw [if_pos (by rfl)]
 have hc:=hAt.out _ _ _ hSg.out hm2.out hq2.out
 have hlen:cg.length=111:=by rw [hcg.out];exact lfc_len hf.out.S
 have th:=mn_there (o:=2) (n:=cg.toArray.size) hc (by simp [hcl.out,hylen.out,hlen])
 refine wp_store_mid 95 (.tmp 55) (.tmp 51) rfl q 2 cg.toArray (by rfl) (by rfl) th (by rw [List.size_toArray,hlen];kernel_rfl) (by rw [hcg.out];exact lfc_one f) ?_
 have hst9:=mn_set_leaf hc (vs:=cg) (by rw [hlen,hcl.out])
 have hN8:NewND (w7.setCells q 2 cg) 0 (leafN f):=NewND.leaf hf.out
 obtain ⟨T3,hSh,ev3,f3,n3,l3,r3,g3⟩:=hSg.out.store (x:=leafN f) hm2.out hq2.out hN8 (fun b hb=>by cases hb) (hb_upd w7 q 2 cg) (by rw [show (leafN f).cs=.bool true::(lfc f++zic) from rfl,← hcg.out,← hy.out];exact hst9)
 clear hst9 th hc hN8
 rw [show cg.toArray.toList=cg from rfl]
 generalize w7.setCells q 2 cg=w8 at *
 replace hSh:=qh hSh
 replace ev3:=qh ev3
 replace f3:=qh f3
 replace n3:=qh n3
 replace l3:=qh l3
 replace r3:=qh r3
 replace g3:=qh g3
 replace hlen:=qh hlen
 refine hK.out _ _ (fun h=>by cases h) ?_
 clear hK K
 try simp only [Act.put,zs1,zs2,zs3]
 try simp only [Act.put]
 refine wpAnyM_done (by kernel_rfl) ?_ _
 try simp only [Exit.then]
 clear hSd
 have hSk:=hSh.out.rot2.set2 (.int .i64 g.1) (.int .u64 g.2)
 obtain ⟨b0,b1,bq,bf0,bf1⟩:=box2 (hSh.out.nth 0 rfl)
 obtain ⟨d0,d1,dq,df0,df1⟩:=box2 (hSh.out.nth 1 rfl)
 have hld:=qh (run_loadVar_mid (P:=Tryz.prog) _ RB 0 71 [.int .i64 g.1,.int .u64 g.2] _ (range_of_heap (hSk.nth 0 rfl)) Tryz.underlying71 rfl (by kernel_rfl))
 replace hSk:=qh hSk
 go_wp2_with fail
 have hF3:T3.F=T.F++(g,leafN f)::N:=by
  have hnd:=hSh.out.am.ndf;have e2:T2.F=T.F++(g,newN)::N:=by rw [f2.out,f1.out,List.append_assoc];rfl
  rw [f3.out,fset_fst,e2] at hnd;rw [f3.out,e2,fset_at hnd]
 refine bodyPost_ret (v:=.agg #[.int .i64 g.1,.int .u64 g.2]) (by simp [results,Tryz.results67,asAddr,hld.out]) rfl ⟨g,h2::hs2,T3,(g,leafN f)::N,rfl,by rw [List.length_cons,hs2l.out],hSk.out.am,hSk.out.ev,hF3,fun p=>?_,fun z hz=>?_,?_,?_,?_,?_⟩
 ·show (g,f.bn)::(N.map fun z=>(z.1,z.2.bn))=(g,deep1 (bl a) h2)::flat (bothN (p++(bl a).take 8) ((bl a).drop 8) ((bl b).drop 8) v x (h2::hs2))
  rw [hN2.out (p++(bl a).take 8),hfb.out,hma.out];rfl
 ·rcases List.mem_cons.1 hz with rfl | hz
  ·exact .inl ⟨f,rfl⟩
  ·exact hkN.out z hz
 ·rw [l3.out,l2.out,l1.out];omega
 ·rw [n3.out,n2.out,n1.out]
 ·rw [r3.out,r2.out,r1.out]
 ·rw [g3.out];have:=c2.out;have:=c1.out;omega
theorem AM.both {w0 : World} (n : Nat) : ∀ (a b v x : Str) (w : World) (T : TS), alk (bl a) (bl b) = n → AM w0 w T → a.size ≤ 100000000 → b.size ≤ 100000000 → bl a ≠ bl b → bl a ≠ [] → bl b ≠ [] → n + 1 ≤ T.free.count true → T.ly + n ≤ 1000000000 →
    Calls Tryz.prog 67 #[.pointer (some ⟨T.t,0,none⟩),.string a,.string v,.string b,.string x] w (BothE w0 w T a b v x n):=by
 induction n with
 | zero=>exact both_zero
 | succ n IH=>exact both_succ n IH
end Go.Proofs.YtbdealmkmpnpoaaGreat.M
