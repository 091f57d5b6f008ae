import Derived.Lib.SliceRun
import Derived.Deep.RegionLaw
import Derived.Laws.MakeOwn
import Derived.Test.YtbdealmkmpnpoaaGreatQk01
import Derived.Test.YtbdealmkmpnpoaaGreatQk02
import Derived.Test.YtbdealmkmpnpoaaGreatQk03
import Derived.Test.YtbdealmkmpnpoaaGreatQk04
import Derived.Test.YtbdealmkmpnpoaaGreatQk05
import Derived.Test.YtbdealmkmpnpoaaGreatQk06
import Derived.Test.YtbdealmkmpnpoaaGreatQk07
import Derived.Test.YtbdealmkmpnpoaaGreatQk08
import Derived.Test.YtbdealmkmpnpoaaGreatQk09
set_option linter.all false
namespace Go.Proofs.YtbdealmkmpnpoaaGreat.M
open Go.RowKit
structure MF (w0 w:World) (T:TS) (G:List (Hd×BN Sl)):Prop where
 am:AM w0 w T
 fl:(T.F.map fun x=>(x.1,x.2.bn)).Perm G
 kd:∀ x,x∈T.F→(∃ f,x.2.k=.leaf f)∨∃ b,x.2.k=.inn b
structure NewND (w:World) (base:Nat) (x:ND):Prop where
 is:(∃ f,x.k=.leaf f∧LFOK f∧x.cs=.bool true::(lfc f++zic)∧x.B=[]) ∨
  (∃ b ic,x.k=.inn b∧x.cs=.bool false::(zlc++ic)∧b.leaf=false∧(∃ lo,NodeOK lo b)∧b.keys.length≤5∧InC w x.B ic (down b))
 ge:∀ q,q∈x.B→base≤q
section
variable {w0 w w1 w':World} {T T':TS} {G G':List (Hd×BN Sl)} {h:Hd} {n:BN Sl} {x:ND} {S:List Nat} {base:Nat} {ρ:Nat→Nat}
theorem NewND.upd (hx:NewND w base x) (hu:Upd S w w') (hS:∀ q,q∈S→q < base):NewND w' base x:=by
 refine ⟨?_,hx.ge⟩
 rcases hx.is with h1 | ⟨b,ic,a1,a2,a3,a4,a5,a6⟩
 ·exact .inl h1
 ·exact .inr ⟨b,ic,a1,a2,a3,a4,a5,a6.upd hu fun q hq hm=>by have:=hS q hm;have:=hx.ge q hq;omega⟩
theorem NewND.lt (hx:NewND w base x):∀ q,q∈x.B→q < w.heap.size:=by
 rcases hx.is with ⟨f,_,_,_,e⟩ | ⟨b,ic,a1,a2,a3,a4,a5,a6⟩
 ·rw [e];intro q hq;cases hq
 ·exact a6.lt
theorem NewND.kd (hx:NewND w base x):(∃ f,x.k=.leaf f)∨∃ b,x.k=.inn b:=by
 rcases hx.is with ⟨f,e,_⟩ | ⟨b,ic,e,_⟩
 ·exact .inl ⟨f,e⟩
 ·exact .inr ⟨b,e⟩
theorem NewND.nok (hx:NewND w base x) (hr:∀ q,q∈x.B→ρ q=5):NOK w ρ x:=by
 refine ⟨?_,hr,hx.lt,fun f hf=>?_,fun b hb=>?_⟩
 ·rcases hx.is with ⟨f,_,a,e,_⟩ | ⟨b,ic,_,e,_,_,_,a⟩
  ·rw [e,List.length_cons,List.length_append,lfc_len a.S];rfl
  ·rw [e,List.length_cons,List.length_append,zlc_len,a.len]
 ·rcases hx.is with ⟨f',e1,a,e,_⟩ | ⟨b,ic,e1,_⟩
  ·rw [e1] at hf
   injection hf with hf;subst hf;exact ⟨a,e⟩
  ·rw [e1] at hf;cases hf
 ·rcases hx.is with ⟨f',e1,_⟩ | ⟨b',ic,e1,a2,a3,a4,a5,a6⟩
  ·rw [e1] at hb;cases hb
  ·rw [e1] at hb
   injection hb with hb;subst hb;exact ⟨a3,a4,a5,ic,a2,a6⟩
theorem NewND.leaf {f:LF} (hf:LFOK f):NewND w base ⟨.leaf f,.bool true::(lfc f++zic),[]⟩:=⟨.inl ⟨f,rfl,hf,rfl,rfl⟩,fun q hq=>by cases hq⟩
theorem NewND.inn {b:BN Sl} {ic:List Value} {B:List Nat} {lo:Str} (hl:b.leaf=false) (ho:NodeOK lo b) (h5:b.keys.length≤5) (hI:InC w B ic (down b)) (hB:∀ q,q∈B→base≤q):NewND w base ⟨.inn b,.bool false::(zlc++ic),B⟩ :=
 ⟨.inr ⟨b,ic,rfl,rfl,hl,⟨lo,ho⟩,h5,hI⟩,hB⟩
theorem MF.perm (hM:MF w0 w T G) (hp:G.Perm G'):MF w0 w T G':=⟨hM.am,hM.fl.trans hp,hM.kd⟩
theorem MF.mem (hM:MF w0 w T G) {z:Hd×BN Sl}:z∈G↔∃ x,x∈T.F∧(x.1,x.2.bn)=z:=by
 rw [← hM.fl.mem_iff,List.mem_map]
theorem MF.nd (hM:MF w0 w T G):(G.map (·.1)).Nodup:=by
 have:=(hM.fl.map (·.1)).nodup_iff.1
 refine this ?_
 rw [List.map_map]
 exact hM.am.ndf
structure EntAt (T:TS) (h:Hd) (q:Nat):Prop where
 ex:∃ e,e∈T.d.A.L∧(e.slot:Int)=h.1∧e.gen=h.2∧e.blk=q
theorem EntAt.ev {g:Hd} {b:Nat} (h:EntAt T g b) (k:TEv w w' T T'):EntAt T' g b:=by
 obtain ⟨y,y1,y2,y3,y4⟩:=h.ex
 obtain ⟨z,z1,z2,z3,z4⟩:=k.et y y1
 exact ⟨z,z1,by rw [z2];exact y2,z3.trans y3,z4.trans y4⟩
theorem AM.at (hA:AM w0 w T) {q:Nat} (hx:(h,x)∈T.F) (hq:EntAt T h q):w.heap[q]?=some (.cells (.int .u64 h.2::x.cs).toArray 192):=by
 obtain ⟨y,y1,y2,y3,rfl⟩:=hq.ex
 obtain ⟨e,e1,e2,e3,e4⟩:=hA.ent _ hx
 have:=slot_uniq hA.slots y1 e1 (by have:(y.slot:Int)=e.slot:=y2.trans e2.symm;omega)
 subst this
 have hc:=hA.bw.cellsOf hA.hd hA.tc e1
 rw [e4,e3] at hc
 exact hc
theorem AM.getE (hA:AM w0 w T) (hx:(h,x)∈T.F):∃ q,EntAt T h q∧∀ W,Below w.heap.size w W→Calls Tryz.prog 62 #[.pointer (some ⟨T.d.A.a,0,none⟩),hV h] W fun y W'=>y=.returned (.tuple #[.pointer (some ⟨q,1,none⟩),.bool true])∧Below W.heap.size W W':=by
 obtain ⟨e,e1,e2,e3,_,e5⟩:=hA.get hx
 exact ⟨e.blk,⟨e,e1,e2,e3,rfl⟩,e5⟩
theorem EntAt.lt (hA:AM w0 w T) {q:Nat} (hq:EntAt T h q):q < w.heap.size∧T.ρ q=10+3*T.i:=by
 obtain ⟨y,y1,_,_,rfl⟩:=hq.ex
 obtain ⟨z,hz,z1,z2⟩:=hA.node y1
 obtain ⟨z1',z2'⟩:=z
 have:=hA.at hz ⟨y,y1,z1,z2,rfl⟩
 exact ⟨heap_lt this,(hA.bw.ars.ar T.i T.d hA.hd).th y y1 |>.1⟩
theorem fset_bn {F:NF} {m:ND} (hn:(F.map (·.1)).Nodup) (hm:(h,m)∈F) (e:m.bn=n) (hp:(F.map fun x=>(x.1,x.2.bn)).Perm ((h,n)::G)):((fset F h x).map fun y=>(y.1,y.2.bn)).Perm ((h,x.bn)::G):=by
 obtain ⟨A,B,rfl⟩:=List.append_of_mem hm
 have h1:∀ L:NF,(∀ y,y∈L→y.1≠h)→fset L h x=L:=fun L hL=>by
  unfold fset;rw [List.map_congr_left (g:=id) (fun y hy=>by rw [if_neg (hL y hy)];rfl),List.map_id]
 rw [List.map_append,List.map_cons,List.nodup_append] at hn
 obtain ⟨hn1,hn2,hn3⟩:=hn
 rw [List.nodup_cons] at hn2
 have hA:fset A h x=A:=h1 A fun y hy e=>hn3 y.1 (List.mem_map_of_mem hy) h (by simp) e
 have hB:fset B h x=B:=h1 B fun y hy e=>hn2.1 (List.mem_map.2 ⟨y,hy,e⟩)
 have hs:fset (A++(h,m)::B) h x=A++(h,x)::B:=by
  have:fset (A++(h,m)::B) h x=fset A h x++fset ((h,m)::B) h x:=List.map_append;rw [this,hA]
  show A++((if h=h then (h,x) else (h,m))::fset B h x)=_
  rw [if_pos rfl,hB]
 rw [hs]
 rw [List.map_append,List.map_cons] at hp ⊢
 have hp2:=(List.perm_middle.symm.trans hp)
 simp only [e] at hp2
 exact List.perm_middle.trans (List.Perm.cons _ (List.Perm.cons_inv hp2))
structure MS (w0 w:World) (T:TS) (W:World) (T':TS) (L:List (Nat×Obj)):Prop where
 am:AM w0 W T'
 ev:TEv w W T T'
 own:∀ x,x∈L→W.heap[x.1]?=some x.2∧w.heap.size≤x.1∧T'.ρ x.1=0
 nd:(L.map (·.1)).Nodup
 le:w0.heap.size≤w.heap.size
variable {W W':World} {T1 T2:TS} {L:List (Nat×Obj)} {o o':Obj} {q:Nat}
theorem MS.start (hA:AM w0 w T):MS w0 w T w T []:=⟨hA,TEv.refl hA,by simp,List.nodup_nil,hA.bw.ro.bel.size⟩
theorem MS.call (hS:MS w0 w T W T1 L) (hA:AM w0 W' T2) (hE:TEv W W' T1 T2):MS w0 w T W' T2 L :=
 ⟨hA,hS.ev.trans hE,fun x hx=>by
  obtain ⟨a,b,c⟩:=hS.own x hx
  exact ⟨hE.ru.heap a (by rw [c];simp;omega),b,by rw [hE.ru.role _ (heap_lt a)];exact c⟩,hS.nd,hS.le⟩
theorem MS.below (hS:MS w0 w T W T1 L) (hb:Below W.heap.size W W'):MS w0 w T W' T1 L:=hS.call (hS.am.below hb) (TEv.below hS.am hb)
theorem MS.drew (hS:MS w0 w T W T1 L):MS w0 w T W.drew T1 L:=hS.below (Below.refl _ _).drew
theorem MS.box (hS:MS w0 w T W T1 L) (o:Obj):MS w0 w T (W.alloc o) T1 ((W.heap.size,o)::L):=by
 have h1:=hS.below ((Below.refl _ _).alloc (Nat.le_refl _) o)
 refine ⟨h1.am,h1.ev,fun x hx=>?_,?_,hS.le⟩
 ·rcases List.mem_cons.1 hx with rfl | hx
  ·exact ⟨heap_alloc_new _ _,hS.ev.ru.size,hS.am.bw.ro.far _ (Nat.le_refl _)⟩
  ·exact h1.own x hx
 ·rw [List.map_cons,List.nodup_cons]
  refine ⟨fun hm=>?_,hS.nd⟩;obtain ⟨y,hy,e⟩:=List.mem_map.1 hm;have:=heap_lt (hS.own y hy).1;simp only at e;omega
theorem MS.perm {L':List (Nat×Obj)} (hS:MS w0 w T W T1 L) (hp:L.Perm L'):MS w0 w T W T1 L':=⟨hS.am,hS.ev,fun x hx=>hS.own x (hp.mem_iff.2 hx),((hp.map _).nodup_iff).1 hS.nd,hS.le⟩
theorem MS.set (hS:MS w0 w T W T1 ((q,o)::L)) (hu:Upd [q] W W') (hb:W'.heap[q]?=some o'):MS w0 w T W' T1 ((q,o')::L):=by
 obtain ⟨a,b,c⟩:=hS.own (q,o) (List.mem_cons_self ..)
 refine ⟨hS.am.own0 hu fun k hk=>?_,hS.ev.own0 hu fun k hk=>?_,fun x hx=>?_,hS.nd,hS.le⟩
 ·rw [List.mem_singleton.1 hk];exact ⟨Nat.le_trans hS.le b,c⟩
 ·rw [List.mem_singleton.1 hk];exact b
 ·rcases List.mem_cons.1 hx with rfl | hx
  ·exact ⟨hb,b,c⟩
  ·obtain ⟨a2,b2,c2⟩:=hS.own x (List.mem_cons_of_mem _ hx)
   refine ⟨hu.heap a2 (fun hm=>?_),b2,c2⟩;have hnd:=hS.nd;rw [List.map_cons,List.nodup_cons] at hnd;exact hnd.1 (List.mem_map.2 ⟨x,hx,List.mem_singleton.1 hm⟩)
theorem MS.get (hS:MS w0 w T W T1 L) (hx:(q,o)∈L):W.heap[q]?=some o:=(hS.own _ hx).1
theorem MS.tree (hS:MS w0 w T W T1 L):W.cell? ⟨T.t,1,none⟩=some (.pointer (some ⟨T.d.A.a,0,none⟩)):=by
 have:=hS.am.cells.2.1
 rw [hS.ev.t,hS.ev.a] at this
 exact this
theorem MS.pool (hS:MS w0 w T W T1 L):W.cell? ⟨T.t,0,none⟩=some (.pointer (some ⟨T.P.1,0,none⟩)):=by
 have:=hS.am.cells.1
 rw [hS.ev.t,hS.ev.P] at this
 exact this
theorem MS.marks (hS : MS w0 w T W T1 L) (hb : Below W.heap.size W W') (B : List Nat) (hB : ∀ b, b ∈ B → W.heap.size ≤ b ∧ b < W'.heap.size) :
    MS w0 w T W' { T1 with ρ:=mkN T1.ρ W.heap.size B 5 } L∧∀ b,b∈B→mkN T1.ρ W.heap.size B 5 b=5:=by
 obtain ⟨a,b⟩:=hS.am.marks hb B fun q hq=>(hB q hq).2
 exact ⟨hS.call a b,fun q hq=>mkN_new (hB q hq).1 hq⟩
theorem MS.store {z : ND} (hS : MS w0 w T W T1 L) (hz : (h, z) ∈ T1.F) (hq : EntAt T1 h q) (hx : NewND W' base x) (hr : ∀ b, b ∈ x.B → T1.ρ b = 5) (hu : Upd [q] W W') (hb : W'.heap[q]? = some (.cells (.int .u64 h.2 :: x.cs).toArray 192)) :
    ∃ T2,MS w0 w T W' T2 L∧TEv W W' T1 T2∧T2.F=fset T1.F h x∧T2.n=T1.n∧T2.ly=T1.ly∧T2.r=T1.r∧T2.free=T1.free:=by
 obtain ⟨e,e1,e2,e3,rfl⟩:=hq.ex
 obtain ⟨T2,a1,a2,a3,a4,a5,a6,a7⟩:=hS.am.store hz e1 e2 e3 x (hx.nok hr) hu (by rw [e3];exact hb)
 exact ⟨T2,hS.call a1 a2,a2,a3,a4,a5,a6,a7⟩
theorem MS.alloc (hS : MS w0 w T W T1 L) (n : ND) (hk : NOK W T1.ρ n) (hfr : true ∈ T1.free) :
    ∃ g:Hd,(∀ z,z∈T1.F→z.1≠g)∧Calls Tryz.prog 90 #[.pointer (some ⟨T.d.A.a,0,none⟩),.agg n.cs.toArray] W fun y W' =>
     y=.returned (.tuple #[hV g,.int .i64 0])∧∃ T2,MS w0 w T W' T2 L∧TEv W W' T1 T2∧T2.F=T1.F++[(g,n)]∧T2.n=T1.n∧T2.ly=T1.ly∧T2.r=T1.r∧T2.free.count true+1=T1.free.count true:=by
 obtain ⟨g,hg,hC⟩:=hS.am.alloc n hk hfr
 rw [hS.ev.a] at hC
 refine ⟨g,hg,hC.mono ?_⟩
 rintro y W' ⟨rfl,T2,a1,a2,a3⟩
 exact ⟨rfl,T2,hS.call a1 a2,a2,a3⟩
theorem MS.getE (hS:MS w0 w T W T1 L) (hx:(h,x)∈T1.F):∃ q,EntAt T1 h q∧∀ W2,Below W.heap.size W W2→Calls Tryz.prog 62 #[.pointer (some ⟨T.d.A.a,0,none⟩),hV h] W2 fun y W'=>y=.returned (.tuple #[.pointer (some ⟨q,1,none⟩),.bool true])∧Below W2.heap.size W2 W':=by
 obtain ⟨q,a,b⟩:=hS.am.getE hx
 rw [hS.ev.a] at b
 exact ⟨q,a,b⟩
theorem mn_set_leaf {W:World} {q:Nat} {g u:Value} {A B vs:List Value} {t:TypeId} (h:W.heap[q]?=some (.cells (g::u::(A++B)).toArray t)) (hl:vs.length=A.length):(W.setCells q 2 vs).heap[q]?=some (.cells (g::u::(vs++B)).toArray t):=by
 rw [hb_set h vs (by simp;omega)]
 congr 3
 have e:g::u::(A++B)=(g::u::A)++B:=rfl
 rw [hl,e,List.drop_append,List.drop_of_length_le (by simp;omega),show 2+A.length - (g::u::A).length=0 by simp;omega]
 simp
theorem mn_set_inn {W:World} {q:Nat} {g u:Value} {A B vs:List Value} {t:TypeId} (h:W.heap[q]?=some (.cells (g::u::(A++B)).toArray t)) (hA:A.length=111) (hl:vs.length=B.length):(W.setCells q 113 vs).heap[q]?=some (.cells (g::u::(A++vs)).toArray t):=by
 rw [hb_set h vs (by simp;omega)]
 congr 3
 have e:g::u::(A++B)=(g::u::A)++B:=rfl
 rw [e,List.take_left' (by simp [hA]),List.drop_of_length_le (by simp;omega)]
 simp
theorem mn_there {W:World} {q o n:Nat} {c:List Value} {t:TypeId} (h:W.heap[q]?=some (.cells c.toArray t)) (hn:o+n≤c.length):W.there q o n:=hb_there h hn
end
open Go.RowKit
def rawN (b:Bool):ND:=⟨.raw,.bool b::(zlc++zic),[]⟩
theorem rawN_ok (w:World) (ρ:Nat→Nat) (b:Bool):NOK w ρ (rawN b) :=
 ⟨by show (Value.bool b::(zlc++zic)).length=120;rw [List.length_cons,List.length_append,zlc_len];rfl,fun q hq=>(by cases hq),fun q hq=>(by cases hq),fun f hf=>(by cases hf),fun b hb=>(by cases hb)⟩
section
variable {w0 w W:World} {T T1:TS} {L:List (Nat×Obj)} {q:Nat} {t:TypeId} {x0 x1:Value}
theorem MS.set2 (hS:MS w0 w T W T1 ((q,.cells #[x0,x1] t)::L)) (y0 y1:Value):MS w0 w T ((W.setCell ⟨q,0,none⟩ y0).setCell ⟨q,1,none⟩ y1) T1 ((q,.cells #[y0,y1] t)::L) :=
 hS.set (((Upd.refl [q] W).setCell (p:=⟨q,0,none⟩) (by simp) _).setCell (p:=⟨q,1,none⟩) (by simp) _) (by rw [heap_set_same (heap_set_same (hS.get (List.mem_cons_self ..)) 0 _) 1 _];rfl)
theorem MS.rot2 {a b:Nat×Obj} (hS:MS w0 w T W T1 (a::b::L)):MS w0 w T W T1 (b::a::L):=hS.perm (List.Perm.swap _ _ _)
theorem MS.rot3 {a b c:Nat×Obj} (hS:MS w0 w T W T1 (a::b::c::L)):MS w0 w T W T1 (c::a::b::L):=hS.perm (((List.Perm.swap c b L).cons a).trans (List.Perm.swap _ _ _))
end
def SplitE (w0 w:World) (T:TS) (hh:Hd) (m:BN Sl) (e:Ending) (w':World):Prop :=
 ∃ (nx:Hd) (T':TS) (nl nr:ND) (b:Bool),(∀ z,z∈T.F→z.1≠nx)∧e=.returned (.tuple #[.string m.sep,hV nx])∧AM w0 w' T'∧TEv w w' T T'∧T'.F=fset (fset (T.F++[(nx,rawN b)]) hh nl) nx nr∧nl.bn=m.left nx∧nr.bn=m.rightHalf ∧
  ((∃ f,nl.k=.leaf f)∨∃ b,nl.k=.inn b)∧((∃ f,nr.k=.leaf f)∨∃ b,nr.k=.inn b)∧T'.n=T.n∧T'.ly=T.ly∧T'.r=T.r∧T'.free.count true+1=T.free.count true
theorem lf_sep {f:LF} (hf:LFOK f) (h2:2≤f.n):f.bn.sep=mT (f.slot (f.n / 2)).m:=by
 unfold BN.sep BN.mid
 rw [hf.klen,List.getD_eq_getElem?_getD,hf.kget (by omega)]
 rfl
theorem range_mid {w:World} {q:Nat} {g u:Value} {A B:List Value} {t:TypeId} (h:w.heap[q]?=some (.cells (g::u::(A++B)).toArray t)) (_hA:A.length=111):w.rangeAt q 2 A:=fun j v hv=>by
 rw [cell_of_heap h,zg1]
 have:(g::u::(A++B))[2+j]?=(A++B)[j]?:=by rw [show 2+j=j+1+1 by omega];rfl
 rw [this,List.getElem?_append_left (List.getElem?_eq_some_iff.1 hv).1]
 exact hv
theorem inn_mid {w:World} {q:Nat} {g u:Value} {A B:List Value} {t:TypeId} (h:w.heap[q]?=some (.cells (g::u::(A++B)).toArray t)) (hA:A.length=111):w.rangeAt q 113 B:=fun j v hv=>by
 rw [cell_of_heap h,zg1]
 have:(g::u::(A++B))[113+j]?=(A++B)[111+j]?:=by rw [show 113+j=111+j+1+1 by omega];rfl
 rw [this,List.getElem?_append_right (by omega),show 111+j - A.length=j by omega]
 exact hv
theorem half_in {b:BN Sl} (h3:3≤b.keys.length) (h5:b.keys.length≤5) (hl:b.leaf=false) (nx:Hd):(b.left nx).keys.length≤5∧b.rightHalf.keys.length≤5:=by
 unfold BN.left BN.rightHalf
 rw [hl]
 simp
 omega
set_option maxRecDepth 100000 in
set_option maxHeartbeats 1500000 in
theorem AM.splitLf {w0 w : World} {T : TS} {hh : Hd} {q : Nat} {f : LF} {n : ND} (hA : AM w0 w T) (hn : (hh, n) ∈ T.F) (hk : n.k = .leaf f) (hq : EntAt T hh q) (hfr : true ∈ T.free) (h2 : 2 ≤ f.n) :
    Calls Tryz.prog 115 #[.pointer (some ⟨T.t,0,none⟩),.pointer (some ⟨q,1,none⟩)] w (SplitE w0 w T hh f.bn):=by
 obtain ⟨hf,hcs⟩:=(hA.ok _ hn).lf f hk
 have hcl:=lfc_len hf.S
 have hAt:Hid (∀ W T1 L,MS w0 w T W T1 L→(hh,n)∈T1.F→W.heap[q]?=some (.cells (.int .u64 hh.2::.bool true::(lfc f++zic)).toArray 192)):=qh fun W T1 L hS hm=>by
  have:=hS.am.at hm (hq.ev hS.ev);rw [hcs] at this;exact this
 have hSp:Hid (∀ (nx:Hd) (W:World),Calls Tryz.prog 144 #[.agg (lfc f).toArray,.agg #[.int .i64 nx.1,.int .u64 nx.2]] W fun e w'=>∃ cl cr l r,e=.returned (.tuple #[.agg cl.toArray,.agg cr.toArray,.agg #[.int .u64 (((f.slot (f.n / 2)).m.s:Nat):Int),.int .u8 (((f.slot (f.n / 2)).m.c:Nat):Int)]])∧cl=lfc l∧cr=lfc r∧Below W.heap.size W w'∧LFOK l∧LFOK r∧l.bn=f.bn.left nx∧r.bn=f.bn.rightHalf):=qh fun nx W=>by
  refine (lfSplit_any f hf h2 nx W).mono ?_;rintro e w' ⟨l,r,rfl,a⟩;exact ⟨_,_,l,r,rfl,rfl,rfl,a⟩
 have hmk:MkOK (f.slot (f.n / 2)).m:=(hf.sok (by omega)).m
 have hTx:Hid (∀ W,Calls Tryz.prog 97 #[.agg #[.int .u64 (((f.slot (f.n / 2)).m.s:Nat):Int),.int .u8 (((f.slot (f.n / 2)).m.c:Nat):Int)]] W fun e w'=>e=.returned (.string f.bn.sep)∧Below W.heap.size W w'):=qh fun W=>by
  rw [lf_sep hf h2];exact mkText_any _ hmk W
 obtain ⟨sm,hsm⟩:∃ m,m=(f.slot (f.n / 2)).m:=⟨_,rfl⟩
 rw [← hsm] at hSp hTx
 obtain ⟨cs,hcse⟩:∃ c,c=lfc f:=⟨_,rfl⟩
 rw [← hcse] at hAt hSp hcl
 clear hmk hk
 replace hsm:=qh hsm
 replace hcs:=qh hcs
 replace hcse:=qh hcse
 replace hcl:=qh hcl
 replace hf:=qh hf
 obtain ⟨A,hAe⟩:∃ a,a=T.d.A.a:=⟨_,rfl⟩
 have hbl:=qh (build_raw true)
 have hAl:=qh fun (W:World) (L:List (Nat×Obj)) (hS:MS w0 w T W T L)=>hS.alloc (rawN true) (rawN_ok _ _ _) hfr
 have hGe:=qh fun (W:World) (T1:TS) (L:List (Nat×Obj)) (hS:MS w0 w T W T1 L) (nx:Hd) (hx:(nx,rawN true)∈T1.F)=>hS.getE hx
 rw [← hAe] at hAl hGe
 obtain ⟨zl,hzl⟩:∃ c,c=zlc:=⟨_,rfl⟩
 obtain ⟨y,hy⟩:∃ c,c=zic:=⟨_,rfl⟩
 have hzlen:zl.length=111:=by rw [hzl];exact zlc_len
 have hylen:y.length=8:=by rw [hy];rfl
 rw [show (rawN true).cs=.bool true::(zlc++zic) from rfl] at hAl
 rw [← hzl,← hy] at hbl hAl
 rw [← hy] at hAt
 obtain ⟨cz,hcz⟩:∃ c,c=Value.bool true::(zl++y):=⟨_,rfl⟩
 rw [← hcz] at hbl hAl
 have hSok:Hid (∀ W T1 L,MS w0 w T W T1 L→(hh,n)∈T1.F→(W.cell? ⟨T.t,1,none⟩=some (.pointer (some ⟨A,0,none⟩))∧W.cell? ⟨q,1,none⟩=some (.bool true))):=qh fun W T1 L hS hm=>⟨by rw [hAe];exact hS.tree,low_cell (hAt.out W T1 L hS hm)⟩
 have hS0:=(MS.start hA).box (.cells #[.int .i64 0,.int .u64 0] 71)
 obtain ⟨wa,hwa⟩:∃ W,W=w.alloc (.cells #[.int .i64 0,.int .u64 0] 71):=⟨_,rfl⟩
 rw [← hwa] at hS0
 have hql:=(hq.lt hA).1
 have htl:=block_lt_of_cell hA.cells.2.1
 have hhn:Hid (∀ g,(∀ z,z∈T.F→z.1≠g)→g≠hh):=qh fun g hg e=>hg _ hn e.symm
 replace hwa:=qh hwa
 replace hS0:=qh hS0
 replace hcz:=qh hcz
 replace hzl:=qh hzl
 replace hy:=qh hy
 replace hzlen:=qh hzlen
 replace hylen:=qh hylen
 replace hAe:=qh hAe
 replace hA:=qh hA
 replace hn:=qh hn
 replace hq:=qh hq
 go_enter Tryz.func115,Tryz.ntmps115
 go_upto_region 1 with fail
 rw [← hwa.out]
 go_cut [6,7] (fun v6 v7 wz=>∃ nb nx T1,v6=.pointer (some ⟨nb,0,none⟩)∧v7=.int .i64 0∧(∀ z,z∈T.F→z.1≠nx)∧MS w0 w T wz T1 [(nb,.cells #[.int .i64 nx.1,.int .u64 nx.2] 71),(w.heap.size,.cells #[.int .i64 0,.int .u64 0] 71)]∧T1.F=T.F++[(nx,rawN true)]∧T1.n=T.n∧T1.ly=T.ly∧T1.r=T.r∧T1.free.count true+1=T.free.count true)
 case first =>
  refine wp_region_late [] (S:=fun W'=>W'.cell? ⟨T.t,1,none⟩=some (.pointer (some ⟨A,0,none⟩))∧W'.cell? ⟨q,1,none⟩=some (.bool true)) rfl (hSok.out _ _ _ hS0.out.drew hn.out) (fun hHeld=>?_)
  try dsimp only at hHeld
  refine tkW 0 ?_;refine tkW 1 ?_;refine tkW 2 ?_;refine tkM 3 ?_ (hz:=by rintro w ⟨e1,e2⟩;exact zf);refine tkW 4 ?_;refine tkW 5 ?_;refine tkW 6 ?_;refine tkM 7 ?_ (hz:=by rintro w ⟨e1,e2⟩;exact zf);refine ykW 8 ?_ (hy:=yieldsIf_build (by rfl) 100 _ rfl [(0,.bool true)] (by rfl) cz.toArray hbl.out);refine wpAnyM_ready (rs:=[9,13]) (by kernel_rfl) (by simp) ?_;refine (AllReadyM.cons rfl (fun K hK=>?_) (AllReadyM.cons rfl (fun K hK=>?_) AllReadyM.nil))
  ·skip
   go_simp;go_at_call 90;obtain ⟨g,hg,hC⟩:=hAl.out _ _ hS0.out.drew;refine hC.mono ?_;clear hC;rintro z3 W1 ⟨rfl,T2,hSa,t2,t3,t4,t5,t6,t7⟩;have hS1:=hSok.out _ _ _ hSa (by rw [t3];exact List.mem_append_left _ hn.out);replace hSa:=qh hSa;replace t2:=qh t2;replace t3:=qh t3;replace t4:=qh t4;replace t5:=qh t5;replace t6:=qh t6;replace t7:=qh t7;replace hg:=qh hg;go_wp2_with fail;refine hK.out _ _ (fun _ _=>hS1) ?_;clear hHeld hK K;have hHeld:=hS1;clear hS1
   try simp only [Act.put,zs1,zs2,zs3]
   try simp only [Act.put]
   refine tkW 10 ?_;refine tkW 11 ?_;refine tkW 12 ?_;refine rdM 13 ?_;intro K hK;go_simp;have hSb:MS w0 w T (W1.alloc (.cells #[.int .i64 0,.int .u64 0] 71)) _ _:=hSa.out.box (.cells #[.int .i64 0,.int .u64 0] 71);generalize (W1.alloc (.cells #[.int .i64 0,.int .u64 0] 71))=W2 at *;obtain ⟨nb,hnb⟩:∃ x,x=W1.heap.size:=⟨_,rfl⟩;rw [← hnb] at hSb ⊢;replace hnb:=qh hnb;have hS1:=hSok.out _ _ _ hSb (by rw [t3.out];exact List.mem_append_left _ hn.out);replace hSb:=qh hSb;refine hK.out _ _ (fun _ _=>hS1) ?_;clear hHeld hK K;have hHeld:=hS1;clear hS1
   try simp only [Act.put,zs1,zs2,zs3]
   try simp only [Act.put]
   refine rdM 14 ?_;intro K hK;obtain ⟨b0,b1,bq,bf0,bf1⟩:=box2 (hSb.out.get (List.mem_cons_self ..));go_simp;clear b0 b1 bq bf0 bf1;have hSc:=hSb.out.set2 (.int .i64 g.1) (.int .u64 g.2);generalize ((W2.setCell ⟨nb,0,none⟩ (.int .i64 g.1)).setCell ⟨nb,1,none⟩ (.int .u64 g.2))=W3 at *;have hS1:=hSok.out _ _ _ hSc (by rw [t3.out];exact List.mem_append_left _ hn.out);replace hSc:=qh hSc;refine hK.out _ _ (fun _ _=>hS1) ?_;clear hHeld hK K;have hHeld:=hS1;clear hS1
   try simp only [Act.put,zs1,zs2,zs3]
   try simp only [Act.put]
   refine tkW 15 ?_;refine wpAnyM_done (by kernel_rfl) ?_ _
   try simp only [Exit.then]
   clear hHeld;go_wp2_with fail;go_meet;exact ⟨nb,g,T2,rfl,rfl,hg.out,hSc.out,t3.out,t4.out,t5.out,t6.out,t7.out⟩
  ·skip
   go_simp;have hSb:MS w0 w T (wa.alloc (.cells #[.int .i64 0,.int .u64 0] 71)).drew _ _:=(hS0.out.box (.cells #[.int .i64 0,.int .u64 0] 71)).drew;generalize (wa.alloc (.cells #[.int .i64 0,.int .u64 0] 71)).drew=W1 at *;obtain ⟨nb,hnb⟩:∃ x,x=wa.heap.size:=⟨_,rfl⟩;rw [← hnb] at hSb ⊢;replace hnb:=qh hnb;have hS1:=hSok.out _ _ _ hSb hn.out;replace hSb:=qh hSb;refine hK.out _ _ (fun _ _=>hS1) ?_;clear hHeld hK K;have hHeld:=hS1;clear hS1
   try simp only [Act.put,zs1,zs2,zs3]
   try simp only [Act.put]
   refine rdM 9 ?_;intro K hK;go_simp;go_at_call 90;obtain ⟨g,hg,hC⟩:=hAl.out _ _ hSb.out;refine hC.mono ?_;clear hC;rintro z3 W2 ⟨rfl,T2,hSa,t2,t3,t4,t5,t6,t7⟩;have hS1:=hSok.out _ _ _ hSa (by rw [t3];exact List.mem_append_left _ hn.out);replace hSa:=qh hSa;replace t2:=qh t2;replace t3:=qh t3;replace t4:=qh t4;replace t5:=qh t5;replace t6:=qh t6;replace t7:=qh t7;replace hg:=qh hg;go_wp2_with fail;refine hK.out _ _ (fun _ _=>hS1) ?_;clear hHeld hK K;have hHeld:=hS1;clear hS1
   try simp only [Act.put,zs1,zs2,zs3]
   try simp only [Act.put]
   refine tkW 10 ?_;refine tkW 11 ?_;refine tkW 12 ?_;refine rdM 14 ?_;intro K hK;obtain ⟨b0,b1,bq,bf0,bf1⟩:=box2 (hSa.out.get (List.mem_cons_self ..));go_simp;clear b0 b1 bq bf0 bf1;have hSc:=hSa.out.set2 (.int .i64 g.1) (.int .u64 g.2);generalize ((W2.setCell ⟨nb,0,none⟩ (.int .i64 g.1)).setCell ⟨nb,1,none⟩ (.int .u64 g.2))=W3 at *;have hS1:=hSok.out _ _ _ hSc (by rw [t3.out];exact List.mem_append_left _ hn.out);replace hSc:=qh hSc;refine hK.out _ _ (fun _ _=>hS1) ?_;clear hHeld hK K;have hHeld:=hS1;clear hS1
   try simp only [Act.put,zs1,zs2,zs3]
   try simp only [Act.put]
   refine tkW 15 ?_;refine wpAnyM_done (by kernel_rfl) ?_ _
   try simp only [Exit.then]
   clear hHeld;go_wp2_with fail;go_meet;exact ⟨nb,g,T2,rfl,rfl,hg.out,hSc.out,t3.out,t4.out,t5.out,t6.out,t7.out⟩
 case rest =>
  obtain ⟨nb,nx,T1,rfl,rfl,hg,hS,t3,t4,t5,t6,t7⟩:=hcut;have hmx:(nx,rawN true)∈T1.F:=by rw [t3];simp
  have hmn:(hh,n)∈T1.F:=by rw [t3];exact List.mem_append_left _ hn.out
  obtain ⟨q2,hq2,hG2⟩:=hGe.out _ _ _ hS nx hmx;have hne:=hhn.out nx hg;replace hg:=qh hg;replace hS:=qh hS;replace t3:=qh t3;replace t4:=qh t4;replace t5:=qh t5;replace t6:=qh t6;replace t7:=qh t7;replace hmx:=qh hmx;replace hmn:=qh hmn;replace hq2:=qh hq2;replace hG2:=qh hG2;replace hne:=qh hne;go_upto_region 2 with fail;refine wp_region_late [] (S:=fun W'=>W'.cell? ⟨T.t,1,none⟩=some (.pointer (some ⟨A,0,none⟩))∧W'.heap[nb]?=some (.cells #[.int .i64 nx.1,.int .u64 nx.2] 71)) rfl (⟨(hSok.out _ _ _ hS.out.drew hmn.out).1,hS.out.drew.get (List.mem_cons_self ..)⟩) (fun hHeld=>?_)
  try dsimp only at hHeld
  refine tkW 0 ?_;refine tkW 1 ?_;refine tkW 2 ?_;refine tkM 3 ?_ (hz:=by rintro w ⟨e1,e2⟩;obtain ⟨b0,b1,bq,bf0,bf1⟩:=box2 e2;exact zf);refine tkM 4 ?_ (hz:=by rintro w ⟨e1,e2⟩;obtain ⟨b0,b1,bq,bf0,bf1⟩:=box2 e2;exact zf);refine rdM 5 ?_;intro K hK;go_simp;go_at_call 62;refine (hG2.out _ (Below.refl _ _).drew).mono ?_;rintro z3 w5 ⟨rfl,hb⟩;have hS5:=hS.out.drew.below hb;clear hb;have hS1:w5.cell? ⟨T.t,1,none⟩=some (.pointer (some ⟨A,0,none⟩))∧w5.heap[nb]?=some (.cells #[.int .i64 nx.1,.int .u64 nx.2] 71):=⟨(hSok.out _ _ _ hS5 hmn.out).1,hS5.get (List.mem_cons_self ..)⟩;replace hS5:=qh hS5;go_wp2_with fail;refine hK.out _ _ (fun _ _=>hS1) ?_;clear hHeld hK K;have hHeld:=hS1;clear hS1
  try simp only [Act.put,zs1,zs2,zs3]
  try simp only [Act.put]
  refine tkW 6 ?_;refine tkW 7 ?_;refine tkW 8 ?_;refine tkW 9 ?_;refine tkW 10 ?_;refine wpAnyM_done (by kernel_rfl) ?_ _
  try simp only [Exit.then]
  clear hHeld;have hlow:=(hSok.out _ _ _ hS5.out hmn.out).2;have hqw:=Nat.lt_of_lt_of_le hql hS5.out.ev.ru.size;go_upto_region 5 with fail;have hS6:=hS5.out.box (.cells #[.int .u64 0,.int .u8 0] 90);generalize w5.alloc (.cells #[.int .u64 0,.int .u8 0] 90)=w6 at *;obtain ⟨MB,hMB⟩:∃ b,b=w5.heap.size:=⟨_,rfl⟩;rw [← hMB] at hS6 ⊢;clear hlow hqw;replace hMB:=qh hMB;replace hS6:=qh hS6;refine wp_region_late [14,17,18] (S:=fun W'=>W'.heap[q]?=some (.cells (.int .u64 hh.2::.bool true::(cs++y)).toArray 192)∧W'.heap[nb]?=some (.cells #[.int .i64 nx.1,.int .u64 nx.2] 71)) rfl (⟨hAt.out _ _ _ hS6.out.drew hmn.out,hS6.out.drew.get (by simp)⟩) (fun hHeld=>?_)
  try dsimp only at hHeld
  refine tkW 0 ?_;refine tkW 1 ?_;refine tkW 2 ?_;refine tkW 3 ?_;refine tkW 4 ?_;refine ykM 5 ?_ (hy:=yieldsIf_load_mid (by rfl) 95 (.tmp 43) rfl q 2 (by rfl) cs _ (fun w hw=>range_mid hw.1 hcl.out) Tryz.underlying95 rfl (by rw [hcl.out];kernel_rfl));refine tkM 6 ?_ (hz:=by rintro w ⟨e1,e2⟩;obtain ⟨b0,b1,bq,bf0,bf1⟩:=box2 e2;exact zf);refine rdM 7 ?_;intro K hK;go_simp;go_at_call 144;refine (hSp.out nx _).mono ?_;rintro z3 w7 ⟨cl,cr,l,r,rfl,hcl2,hcr2,hb,hl1,hr1,hl2,hr2⟩;have hS7:=hS6.out.drew.below hb;clear hb;have hS1:w7.heap[q]?=some (.cells (.int .u64 hh.2::.bool true::(cs++y)).toArray 192)∧w7.heap[nb]?=some (.cells #[.int .i64 nx.1,.int .u64 nx.2] 71):=⟨hAt.out _ _ _ hS7 hmn.out,hS7.get (by simp)⟩;replace hS7:=qh hS7;replace hcl2:=qh hcl2;replace hcr2:=qh hcr2;replace hl1:=qh hl1;replace hr1:=qh hr1;replace hl2:=qh hl2;replace hr2:=qh hr2;go_wp2_with fail;refine hK.out _ _ (fun _ _=>hS1) ?_;clear hHeld hK K;have hHeld:=hS1;clear hS1
  try simp only [Act.put,zs1,zs2,zs3]
  try simp only [Act.put]
  refine tkW 8 ?_;refine tkW 9 ?_;refine tkW 10 ?_;refine tkW 11 ?_;refine tkW 12 ?_;refine tkW 13 ?_;refine rdM 14 ?_;intro K hK;rw [if_pos (by rfl)];have hc:=hAt.out _ _ _ hS7.out hmn.out;have hlen:cl.length=111:=by rw [hcl2.out];exact lfc_len hl1.out.S
  have th:=mn_there (o:=2) (n:=cl.toArray.size) hc (by simp [hcl.out,hylen.out,hlen]);refine wp_store_mid 95 (.tmp 51) (.tmp 47) rfl q 2 cl.toArray (by rfl) (by rfl) th (by rw [List.size_toArray,hlen];kernel_rfl) (by rw [hcl2.out];exact lfc_one l) ?_;have hst:=mn_set_leaf hc (vs:=cl) (by rw [hlen,hcl.out]);obtain ⟨T3,hS8,ev8,f8,n8,l8,r8,g8⟩:=hS7.out.store (h:=hh) (base:=0) (x:=⟨.leaf l,.bool true::(lfc l++zic),[]⟩) hmn.out (hq.out.ev hS7.out.ev) (NewND.leaf hl1.out) (fun b hb=>by cases hb) (hb_upd w7 q 2 cl) (by rw [← hcl2.out,← hy.out];exact hst);clear hst th hc;rw [show cl.toArray.toList=cl from rfl];generalize w7.setCells q 2 cl=w8 at *;have hq3:=hq2.out.ev ev8;have hmx3:(nx,rawN true)∈T3.F:=by rw [f8,mem_fset ⟨n,hmn.out⟩];exact .inr ⟨hne.out,hmx.out⟩
  replace hS8:=qh hS8;replace ev8:=qh ev8;replace f8:=qh f8;replace n8:=qh n8;replace l8:=qh l8;replace r8:=qh r8;replace g8:=qh g8;replace hq3:=qh hq3;replace hmx3:=qh hmx3;replace hlen:=qh hlen;refine hK.out _ _ (fun h=>by cases h) ?_;clear hK K
  try simp only [Act.put,zs1,zs2,zs3]
  try simp only [Act.put]
  refine tkW 15 ?_;refine tkW 16 ?_;refine rdM 17 ?_;intro K hK;rw [if_pos (by rfl)];have hc:=hS8.out.am.at hmx3.out hq3.out;rw [show (rawN true).cs=.bool true::(zlc++zic) from rfl,← hzl.out,← hy.out] at hc;have hlen:cr.length=111:=by rw [hcr2.out];exact lfc_len hr1.out.S
  have th:=mn_there (o:=2) (n:=cr.toArray.size) hc (by simp [hzlen.out,hylen.out,hlen]);refine wp_store_mid 95 (.tmp 53) (.tmp 48) rfl q2 2 cr.toArray (by rfl) (by rfl) th (by rw [List.size_toArray,hlen];kernel_rfl) (by rw [hcr2.out];exact lfc_one r) ?_;have hst:=mn_set_leaf hc (vs:=cr) (by rw [hlen,hzlen.out]);obtain ⟨T4,hS9,ev9,f9,n9,l9,r9,g9⟩:=hS8.out.store (h:=nx) (base:=0) (x:=⟨.leaf r,.bool true::(lfc r++zic),[]⟩) hmx3.out hq3.out (NewND.leaf hr1.out) (fun b hb=>by cases hb) (hb_upd w8 q2 2 cr) (by rw [← hcr2.out,← hy.out];exact hst);clear hst th hc;rw [show cr.toArray.toList=cr from rfl];generalize w8.setCells q2 2 cr=w9 at *;replace hS9:=qh hS9;replace ev9:=qh ev9;replace f9:=qh f9;replace n9:=qh n9;replace l9:=qh l9;replace r9:=qh r9;replace g9:=qh g9;replace hlen:=qh hlen;refine hK.out _ _ (fun h=>by cases h) ?_;clear hK K
  try simp only [Act.put,zs1,zs2,zs3]
  try simp only [Act.put]
  refine rdM 18 ?_;intro K hK;obtain ⟨b0,b1,bq,bf0,bf1⟩:=box2 (hS9.out.get (List.mem_cons_self ..));go_simp;clear b0 b1 bq bf0 bf1;have hS10:=hS9.out.set2 (.int .u64 ((sm.s:Nat):Int)) (.int .u8 ((sm.c:Nat):Int));generalize ((w9.setCell ⟨MB,0,none⟩ (.int .u64 ((sm.s:Nat):Int))).setCell ⟨MB,1,none⟩ (.int .u8 ((sm.c:Nat):Int)))=w10 at *;replace hS10:=qh hS10;refine hK.out _ _ (fun h=>by cases h) ?_;clear hK K
  try simp only [Act.put,zs1,zs2,zs3]
  try simp only [Act.put]
  refine wpAnyM_done (by kernel_rfl) ?_ _
  try simp only [Exit.then]
  go_upto_region 6 with fail;refine wp_region_late [] (S:=fun W'=>W'.heap[MB]?=some (.cells #[.int .u64 ((sm.s:Nat):Int),.int .u8 ((sm.c:Nat):Int)] 90)∧W'.heap[nb]?=some (.cells #[.int .i64 nx.1,.int .u64 nx.2] 71)) rfl (⟨hS10.out.drew.get (by simp),hS10.out.drew.get (by simp)⟩) (fun hHeld=>?_)
  try dsimp only at hHeld
  refine tkM 0 ?_ (hz:=by rintro w ⟨e1,e2⟩;obtain ⟨a0,a1,aq,af0,af1⟩:=box2 e1;obtain ⟨b0,b1,bq,bf0,bf1⟩:=box2 e2;exact zf);refine tkM 2 ?_ (hz:=by rintro w ⟨e1,e2⟩;obtain ⟨a0,a1,aq,af0,af1⟩:=box2 e1;obtain ⟨b0,b1,bq,bf0,bf1⟩:=box2 e2;exact zf);refine rdM 1 ?_;intro K hK;go_simp;go_at_call 97;refine (hTx.out _).mono ?_;rintro z3 w11 ⟨rfl,hb⟩;have hS11:=hS10.out.drew.below hb;clear hb;have hS1:w11.heap[MB]?=some (.cells #[.int .u64 ((sm.s:Nat):Int),.int .u8 ((sm.c:Nat):Int)] 90)∧w11.heap[nb]?=some (.cells #[.int .i64 nx.1,.int .u64 nx.2] 71):=⟨hS11.get (by simp),hS11.get (by simp)⟩;replace hS11:=qh hS11;go_wp2_with fail;refine hK.out _ _ (fun _ _=>hS1) ?_;clear hHeld hK K;have hHeld:=hS1;clear hS1
  try simp only [Act.put,zs1,zs2,zs3]
  try simp only [Act.put]
  refine tkW 3 ?_;refine rdM 4 ?_;intro K hK;obtain ⟨b0,b1,bq,bf0,bf1⟩:=box2 (hS11.out.rot3.get (List.mem_cons_self ..));go_simp;clear b0 b1 bq bf0 bf1;have hS12:=hS11.out.rot3.set2 (.int .i64 nx.1) (.int .u64 nx.2);generalize ((w11.setCell ⟨w.heap.size,0,none⟩ (.int .i64 nx.1)).setCell ⟨w.heap.size,1,none⟩ (.int .u64 nx.2))=w12 at *;have hS1:w12.heap[MB]?=some (.cells #[.int .u64 ((sm.s:Nat):Int),.int .u8 ((sm.c:Nat):Int)] 90)∧w12.heap[nb]?=some (.cells #[.int .i64 nx.1,.int .u64 nx.2] 71):=⟨hS12.get (by simp),hS12.get (by simp)⟩;replace hS12:=qh hS12;refine hK.out _ _ (fun _ _=>hS1) ?_;clear hHeld hK K;have hHeld:=hS1;clear hS1
  try simp only [Act.put,zs1,zs2,zs3]
  try simp only [Act.put]
  refine wpAnyM_done (by kernel_rfl) ?_ _
  try simp only [Exit.then]
  clear hHeld;have hld:=qh (run_loadVar_mid (P:=Tryz.prog) _ w.heap.size 0 71 [.int .i64 nx.1,.int .u64 nx.2] _ (range_of_heap (hS12.out.get (List.mem_cons_self ..))) Tryz.underlying71 rfl (by kernel_rfl));go_wp2_with fail;refine bodyPost_ret (v:=.tuple #[.string f.bn.sep,.agg #[.int .i64 nx.1,.int .u64 nx.2]]) (by simp [results,Tryz.results115,asAddr,hld.out]) rfl ⟨nx,T4,⟨.leaf l,.bool true::(lfc l++zic),[]⟩,⟨.leaf r,.bool true::(lfc r++zic),[]⟩,true,hg.out,rfl,hS12.out.am,hS12.out.ev,?_,hl2.out,hr2.out,.inl ⟨l,rfl⟩,.inl ⟨r,rfl⟩,?_,?_,?_,?_⟩
  ·rw [f9.out,f8.out,t3.out]
  ·rw [n9.out,n8.out,t4.out]
  ·rw [l9.out,l8.out,t5.out]
  ·rw [r9.out,r8.out,t6.out]
  ·rw [g9.out,g8.out];exact t7.out
set_option maxRecDepth 100000 in
set_option maxHeartbeats 1500000 in
theorem AM.splitIn {w0 w : World} {T : TS} {hh : Hd} {q : Nat} {b : BN Sl} {n : ND} (hA : AM w0 w T) (hn : (hh, n) ∈ T.F) (hk : n.k = .inn b) (hq : EntAt T hh q) (hfr : true ∈ T.free) (h3 : 3 ≤ b.keys.length) :
    Calls Tryz.prog 115 #[.pointer (some ⟨T.t,0,none⟩),.pointer (some ⟨q,1,none⟩)] w (SplitE w0 w T hh b):=by
 obtain ⟨hbl0,⟨lo,hno⟩,hb5,ic,hcs,hIn⟩:=(hA.ok _ hn).inn b hk
 have hicl:=hIn.len
 have hAt:Hid (∀ W T1 L,MS w0 w T W T1 L→(hh,n)∈T1.F→W.heap[q]?=some (.cells (.int .u64 hh.2::.bool false::(zlc++ic)).toArray 192)):=qh fun W T1 L hS hm=>by
  have:=hS.am.at hm (hq.ev hS.ev);rw [hcs] at this;exact this
 have hInS:Hid (∀ W T1 L,MS w0 w T W T1 L→(hh,n)∈T1.F→InC W n.B ic (down b)):=qh fun W T1 L hS hm=>by
  obtain ⟨_,_,_,ic',e,hI⟩:=(hS.am.ok _ hm).inn b hk;rw [hcs] at e;injection e with _ e;have:=List.append_cancel_left e;rw [this];exact hI
 have hSp:Hid (∀ (nx:Hd) (W:World),InC W n.B ic (down b)→Calls Tryz.prog 124 #[.agg ic.toArray,.agg #[.int .i64 nx.1,.int .u64 nx.2]] W fun e w'=>∃ ic2 B2 ic3 B3,e=.returned (.tuple #[.agg ic2.toArray,.agg ic3.toArray,.string b.sep])∧InC w' B2 ic2 (down (b.left nx))∧InC w' B3 ic3 (down b.rightHalf)∧(∀ x,x∈B2→W.heap.size≤x)∧(∀ x,x∈B3→W.heap.size≤x)∧Below W.heap.size W w'):=qh fun nx W hI=>by
  have:=hI.split (g:=nx) (down_ok hno hbl0) (show b.keys.length≤1000 by omega) rfl h3;rw [down_left hbl0,down_right hbl0] at this;exact this
 have hkl:=half_in h3 hb5 hbl0
 have hNl:=qh fun nx=>hno.left (show 2≤b.keys.length by omega) nx
 have hNr:=qh (hno.rightHalf (show 2≤b.keys.length by omega))
 clear hk hIn hno h3 hb5
 replace hkl:=qh hkl
 replace hcs:=qh hcs
 replace hicl:=qh hicl
 replace hbl0:=qh hbl0
 obtain ⟨A,hAe⟩:∃ a,a=T.d.A.a:=⟨_,rfl⟩
 have hbl:=qh (build_raw false)
 have hAl:=qh fun (W:World) (L:List (Nat×Obj)) (hS:MS w0 w T W T L)=>hS.alloc (rawN false) (rawN_ok _ _ _) hfr
 have hGe:=qh fun (W:World) (T1:TS) (L:List (Nat×Obj)) (hS:MS w0 w T W T1 L) (nx:Hd) (hx:(nx,rawN false)∈T1.F)=>hS.getE hx
 rw [← hAe] at hAl hGe
 obtain ⟨zl,hzl⟩:∃ c,c=zlc:=⟨_,rfl⟩
 obtain ⟨y,hy⟩:∃ c,c=zic:=⟨_,rfl⟩
 have hzlen:zl.length=111:=by rw [hzl];exact zlc_len
 have hylen:y.length=8:=by rw [hy];rfl
 rw [show (rawN false).cs=.bool false::(zlc++zic) from rfl] at hAl
 rw [← hzl,← hy] at hbl hAl
 rw [← hzl] at hAt
 obtain ⟨cz,hcz⟩:∃ c,c=Value.bool false::(zl++y):=⟨_,rfl⟩
 rw [← hcz] at hbl hAl
 have hSok:Hid (∀ W T1 L,MS w0 w T W T1 L→(hh,n)∈T1.F→(W.cell? ⟨T.t,1,none⟩=some (.pointer (some ⟨A,0,none⟩))∧W.cell? ⟨q,1,none⟩=some (.bool false))):=qh fun W T1 L hS hm=>⟨by rw [hAe];exact hS.tree,low_cell (hAt.out W T1 L hS hm)⟩
 have hS0:=(MS.start hA).box (.cells #[.int .i64 0,.int .u64 0] 71)
 obtain ⟨wa,hwa⟩:∃ W,W=w.alloc (.cells #[.int .i64 0,.int .u64 0] 71):=⟨_,rfl⟩
 rw [← hwa] at hS0
 have hql:=(hq.lt hA).1
 have htl:=block_lt_of_cell hA.cells.2.1
 have hhn:Hid (∀ g,(∀ z,z∈T.F→z.1≠g)→g≠hh):=qh fun g hg e=>hg _ hn e.symm
 replace hwa:=qh hwa
 replace hS0:=qh hS0
 replace hcz:=qh hcz
 replace hzl:=qh hzl
 replace hy:=qh hy
 replace hzlen:=qh hzlen
 replace hylen:=qh hylen
 replace hAe:=qh hAe
 replace hA:=qh hA
 replace hn:=qh hn
 replace hq:=qh hq
 go_enter Tryz.func115,Tryz.ntmps115
 go_upto_region 1 with fail
 rw [← hwa.out]
 go_cut [6,7] (fun v6 v7 wz=>∃ nb nx T1,v6=.pointer (some ⟨nb,0,none⟩)∧v7=.int .i64 0∧(∀ z,z∈T.F→z.1≠nx)∧MS w0 w T wz T1 [(nb,.cells #[.int .i64 nx.1,.int .u64 nx.2] 71),(w.heap.size,.cells #[.int .i64 0,.int .u64 0] 71)]∧T1.F=T.F++[(nx,rawN false)]∧T1.n=T.n∧T1.ly=T.ly∧T1.r=T.r∧T1.free.count true+1=T.free.count true)
 case first =>
  refine wp_region_late [] (S:=fun W'=>W'.cell? ⟨T.t,1,none⟩=some (.pointer (some ⟨A,0,none⟩))∧W'.cell? ⟨q,1,none⟩=some (.bool false)) rfl (hSok.out _ _ _ hS0.out.drew hn.out) (fun hHeld=>?_)
  try dsimp only at hHeld
  refine tkW 0 ?_;refine tkW 1 ?_;refine tkW 2 ?_;refine tkM 3 ?_ (hz:=by rintro w ⟨e1,e2⟩;exact zf);refine tkW 4 ?_;refine tkW 5 ?_;refine tkW 6 ?_;refine tkM 7 ?_ (hz:=by rintro w ⟨e1,e2⟩;exact zf);refine ykW 8 ?_ (hy:=yieldsIf_build (by rfl) 100 _ rfl [(0,.bool false)] (by rfl) cz.toArray hbl.out);refine wpAnyM_ready (rs:=[9,13]) (by kernel_rfl) (by simp) ?_;refine (AllReadyM.cons rfl (fun K hK=>?_) (AllReadyM.cons rfl (fun K hK=>?_) AllReadyM.nil))
  ·skip
   go_simp;go_at_call 90;obtain ⟨g,hg,hC⟩:=hAl.out _ _ hS0.out.drew;refine hC.mono ?_;clear hC;rintro z3 W1 ⟨rfl,T2,hSa,t2,t3,t4,t5,t6,t7⟩;have hS1:=hSok.out _ _ _ hSa (by rw [t3];exact List.mem_append_left _ hn.out);replace hSa:=qh hSa;replace t2:=qh t2;replace t3:=qh t3;replace t4:=qh t4;replace t5:=qh t5;replace t6:=qh t6;replace t7:=qh t7;replace hg:=qh hg;go_wp2_with fail;refine hK.out _ _ (fun _ _=>hS1) ?_;clear hHeld hK K;have hHeld:=hS1;clear hS1
   try simp only [Act.put,zs1,zs2,zs3]
   try simp only [Act.put]
   refine tkW 10 ?_;refine tkW 11 ?_;refine tkW 12 ?_;refine rdM 13 ?_;intro K hK;go_simp;have hSb:MS w0 w T (W1.alloc (.cells #[.int .i64 0,.int .u64 0] 71)) _ _:=hSa.out.box (.cells #[.int .i64 0,.int .u64 0] 71);generalize (W1.alloc (.cells #[.int .i64 0,.int .u64 0] 71))=W2 at *;obtain ⟨nb,hnb⟩:∃ x,x=W1.heap.size:=⟨_,rfl⟩;rw [← hnb] at hSb ⊢;replace hnb:=qh hnb;have hS1:=hSok.out _ _ _ hSb (by rw [t3.out];exact List.mem_append_left _ hn.out);replace hSb:=qh hSb;refine hK.out _ _ (fun _ _=>hS1) ?_;clear hHeld hK K;have hHeld:=hS1;clear hS1
   try simp only [Act.put,zs1,zs2,zs3]
   try simp only [Act.put]
   refine rdM 14 ?_;intro K hK;obtain ⟨b0,b1,bq,bf0,bf1⟩:=box2 (hSb.out.get (List.mem_cons_self ..));go_simp;clear b0 b1 bq bf0 bf1;have hSc:=hSb.out.set2 (.int .i64 g.1) (.int .u64 g.2);generalize ((W2.setCell ⟨nb,0,none⟩ (.int .i64 g.1)).setCell ⟨nb,1,none⟩ (.int .u64 g.2))=W3 at *;have hS1:=hSok.out _ _ _ hSc (by rw [t3.out];exact List.mem_append_left _ hn.out);replace hSc:=qh hSc;refine hK.out _ _ (fun _ _=>hS1) ?_;clear hHeld hK K;have hHeld:=hS1;clear hS1
   try simp only [Act.put,zs1,zs2,zs3]
   try simp only [Act.put]
   refine tkW 15 ?_;refine wpAnyM_done (by kernel_rfl) ?_ _
   try simp only [Exit.then]
   clear hHeld;go_wp2_with fail;go_meet;exact ⟨nb,g,T2,rfl,rfl,hg.out,hSc.out,t3.out,t4.out,t5.out,t6.out,t7.out⟩
  ·skip
   go_simp;have hSb:MS w0 w T (wa.alloc (.cells #[.int .i64 0,.int .u64 0] 71)).drew _ _:=(hS0.out.box (.cells #[.int .i64 0,.int .u64 0] 71)).drew;generalize (wa.alloc (.cells #[.int .i64 0,.int .u64 0] 71)).drew=W1 at *;obtain ⟨nb,hnb⟩:∃ x,x=wa.heap.size:=⟨_,rfl⟩;rw [← hnb] at hSb ⊢;replace hnb:=qh hnb;have hS1:=hSok.out _ _ _ hSb hn.out;replace hSb:=qh hSb;refine hK.out _ _ (fun _ _=>hS1) ?_;clear hHeld hK K;have hHeld:=hS1;clear hS1
   try simp only [Act.put,zs1,zs2,zs3]
   try simp only [Act.put]
   refine rdM 9 ?_;intro K hK;go_simp;go_at_call 90;obtain ⟨g,hg,hC⟩:=hAl.out _ _ hSb.out;refine hC.mono ?_;clear hC;rintro z3 W2 ⟨rfl,T2,hSa,t2,t3,t4,t5,t6,t7⟩;have hS1:=hSok.out _ _ _ hSa (by rw [t3];exact List.mem_append_left _ hn.out);replace hSa:=qh hSa;replace t2:=qh t2;replace t3:=qh t3;replace t4:=qh t4;replace t5:=qh t5;replace t6:=qh t6;replace t7:=qh t7;replace hg:=qh hg;go_wp2_with fail;refine hK.out _ _ (fun _ _=>hS1) ?_;clear hHeld hK K;have hHeld:=hS1;clear hS1
   try simp only [Act.put,zs1,zs2,zs3]
   try simp only [Act.put]
   refine tkW 10 ?_;refine tkW 11 ?_;refine tkW 12 ?_;refine rdM 14 ?_;intro K hK;obtain ⟨b0,b1,bq,bf0,bf1⟩:=box2 (hSa.out.get (List.mem_cons_self ..));go_simp;clear b0 b1 bq bf0 bf1;have hSc:=hSa.out.set2 (.int .i64 g.1) (.int .u64 g.2);generalize ((W2.setCell ⟨nb,0,none⟩ (.int .i64 g.1)).setCell ⟨nb,1,none⟩ (.int .u64 g.2))=W3 at *;have hS1:=hSok.out _ _ _ hSc (by rw [t3.out];exact List.mem_append_left _ hn.out);replace hSc:=qh hSc;refine hK.out _ _ (fun _ _=>hS1) ?_;clear hHeld hK K;have hHeld:=hS1;clear hS1
   try simp only [Act.put,zs1,zs2,zs3]
   try simp only [Act.put]
   refine tkW 15 ?_;refine wpAnyM_done (by kernel_rfl) ?_ _
   try simp only [Exit.then]
   clear hHeld;go_wp2_with fail;go_meet;exact ⟨nb,g,T2,rfl,rfl,hg.out,hSc.out,t3.out,t4.out,t5.out,t6.out,t7.out⟩
 case rest =>
  obtain ⟨nb,nx,T1,rfl,rfl,hg,hS,t3,t4,t5,t6,t7⟩:=hcut;have hmx:(nx,rawN false)∈T1.F:=by rw [t3];simp
  have hmn:(hh,n)∈T1.F:=by rw [t3];exact List.mem_append_left _ hn.out
  obtain ⟨q2,hq2,hG2⟩:=hGe.out _ _ _ hS nx hmx;have hne:=hhn.out nx hg;replace hg:=qh hg;replace hS:=qh hS;replace t3:=qh t3;replace t4:=qh t4;replace t5:=qh t5;replace t6:=qh t6;replace t7:=qh t7;replace hmx:=qh hmx;replace hmn:=qh hmn;replace hq2:=qh hq2;replace hG2:=qh hG2;replace hne:=qh hne;go_upto_region 2 with fail;refine wp_region_late [] (S:=fun W'=>W'.cell? ⟨T.t,1,none⟩=some (.pointer (some ⟨A,0,none⟩))∧W'.heap[nb]?=some (.cells #[.int .i64 nx.1,.int .u64 nx.2] 71)) rfl (⟨(hSok.out _ _ _ hS.out.drew hmn.out).1,hS.out.drew.get (List.mem_cons_self ..)⟩) (fun hHeld=>?_)
  try dsimp only at hHeld
  refine tkW 0 ?_;refine tkW 1 ?_;refine tkW 2 ?_;refine tkM 3 ?_ (hz:=by rintro w ⟨e1,e2⟩;obtain ⟨b0,b1,bq,bf0,bf1⟩:=box2 e2;exact zf);refine tkM 4 ?_ (hz:=by rintro w ⟨e1,e2⟩;obtain ⟨b0,b1,bq,bf0,bf1⟩:=box2 e2;exact zf);refine rdM 5 ?_;intro K hK;go_simp;go_at_call 62;refine (hG2.out _ (Below.refl _ _).drew).mono ?_;rintro z3 w5 ⟨rfl,hb⟩;have hS5:=hS.out.drew.below hb;clear hb;have hS1:w5.cell? ⟨T.t,1,none⟩=some (.pointer (some ⟨A,0,none⟩))∧w5.heap[nb]?=some (.cells #[.int .i64 nx.1,.int .u64 nx.2] 71):=⟨(hSok.out _ _ _ hS5 hmn.out).1,hS5.get (List.mem_cons_self ..)⟩;replace hS5:=qh hS5;go_wp2_with fail;refine hK.out _ _ (fun _ _=>hS1) ?_;clear hHeld hK K;have hHeld:=hS1;clear hS1
  try simp only [Act.put,zs1,zs2,zs3]
  try simp only [Act.put]
  refine tkW 6 ?_;refine tkW 7 ?_;refine tkW 8 ?_;refine tkW 9 ?_;refine tkW 10 ?_;refine wpAnyM_done (by kernel_rfl) ?_ _
  try simp only [Exit.then]
  clear hHeld;have hlow:=(hSok.out _ _ _ hS5.out hmn.out).2;have hqw:=Nat.lt_of_lt_of_le hql hS5.out.ev.ru.size;go_upto_region 8 with fail;clear hlow hqw;refine wp_region_late [14,17] (S:=fun W'=>W'.heap[q]?=some (.cells (.int .u64 hh.2::.bool false::(zl++ic)).toArray 192)∧W'.heap[nb]?=some (.cells #[.int .i64 nx.1,.int .u64 nx.2] 71)) rfl (⟨hAt.out _ _ _ hS5.out.drew hmn.out,hS5.out.drew.get (by simp)⟩) (fun hHeld=>?_)
  try dsimp only at hHeld
  refine tkW 0 ?_;refine tkW 1 ?_;refine tkW 2 ?_;refine tkW 3 ?_;refine tkW 4 ?_;refine ykM 5 ?_ (hy:=yieldsIf_load_mid (by rfl) 98 (.tmp 62) rfl q 113 (by rfl) ic _ (fun w hw=>inn_mid hw.1 hzlen.out) Tryz.underlying98 rfl (by rw [hicl.out];kernel_rfl));refine tkM 6 ?_ (hz:=by rintro w ⟨e1,e2⟩;obtain ⟨b0,b1,bq,bf0,bf1⟩:=box2 e2;exact zf);refine rdM 7 ?_;intro K hK;have hI:=hInS.out _ _ _ hS5.out.drew hmn.out;go_simp;go_at_call 124;refine (hSp.out nx _ hI).mono ?_;rintro z3 w7 ⟨ic2,B2,ic3,B3,rfl,hI2,hI3,hf2,hf3,hb⟩;obtain ⟨hS7,hro⟩:=hS5.out.drew.marks hb (B2++B3) (fun x hx=>(List.mem_append.1 hx).elim (fun hx=>⟨hf2 x hx,hI2.lt x hx⟩) (fun hx=>⟨hf3 x hx,hI3.lt x hx⟩));obtain ⟨T2,hT2⟩:∃ x,x={ T1 with ρ:=mkN T1.ρ w5.drew.heap.size (B2++B3) 5 }:=⟨_,rfl⟩;rw [← hT2] at hS7;have hro2:∀ x,x∈B2++B3→T2.ρ x=5:=by rw [hT2];exact hro
  have hm2:(hh,n)∈T2.F:=by rw [hT2];exact hmn.out
  have hx2:(nx,rawN false)∈T2.F:=by rw [hT2];exact hmx.out
  have e2:T2.F=T1.F∧T2.n=T1.n∧T2.ly=T1.ly∧T2.r=T1.r∧T2.free=T1.free:=by rw [hT2];exact ⟨rfl,rfl,rfl,rfl,rfl⟩
  have hq3:EntAt T2 nx q2:=by obtain ⟨y,hy⟩:=hq2.out.ex;exact ⟨y,by rw [hT2];exact hy⟩
  have hqB:q < w5.heap.size:=Nat.lt_of_lt_of_le hql hS5.out.ev.ru.size;have hqB2:q2 < w5.heap.size:=?_
  rotate_left 1
  ·exact (EntAt.lt hS5.out.am hq2.out).1
  clear hb hro hT2 hI;have hS1:w7.heap[q]?=some (.cells (.int .u64 hh.2::.bool false::(zl++ic)).toArray 192)∧w7.heap[nb]?=some (.cells #[.int .i64 nx.1,.int .u64 nx.2] 71):=⟨hAt.out _ _ _ hS7 hm2,hS7.get (by simp)⟩;replace hS7:=qh hS7;replace hro2:=qh hro2;replace hm2:=qh hm2;replace hx2:=qh hx2;replace e2:=qh e2;replace hq3:=qh hq3;replace hqB:=qh hqB;replace hqB2:=qh hqB2;replace hI2:=qh hI2;replace hI3:=qh hI3;replace hf2:=qh hf2;replace hf3:=qh hf3;go_wp2_with fail;refine hK.out _ _ (fun _ _=>hS1) ?_;clear hHeld hK K;have hHeld:=hS1;clear hS1
  try simp only [Act.put,zs1,zs2,zs3]
  try simp only [Act.put]
  refine tkW 8 ?_;refine tkW 9 ?_;refine tkW 10 ?_;refine tkW 11 ?_;refine tkW 12 ?_;refine tkW 13 ?_;refine rdM 14 ?_;intro K hK;rw [if_pos (by rfl)];have hc:=hAt.out _ _ _ hS7.out hm2.out;have hlen:ic2.length=8:=hI2.out.len;have th:=mn_there (o:=113) (n:=ic2.toArray.size) hc (by simp [hzlen.out,hicl.out,hlen]);refine wp_store_mid 98 (.tmp 70) (.tmp 66) rfl q 113 ic2.toArray (by rfl) (by rfl) th (by rw [List.size_toArray,hlen];kernel_rfl) (all_oneCell_toArray hI2.out.one) ?_;have hst:=mn_set_inn hc hzlen.out (vs:=ic2) (by rw [hlen,hicl.out]);have hN8:NewND (w7.setCells q 113 ic2) w5.heap.size ⟨.inn (b.left nx),.bool false::(zlc++ic2),B2⟩:=(NewND.inn (base:=w5.heap.size) (show (b.left nx).leaf=false from hbl0.out) (hNl.out nx) (by have:=(hkl.out nx).1;omega) hI2.out hf2.out).upd (hb_upd w7 q 113 ic2) (fun x hx=>by rw [List.mem_singleton.1 hx];exact hqB.out);obtain ⟨T3,hS8,ev8,f8,n8,l8,r8,g8⟩:=hS7.out.store (h:=hh) hm2.out (hq.out.ev hS7.out.ev) hN8 (fun x hx=>hro2.out x (List.mem_append_left _ hx)) (hb_upd w7 q 113 ic2) (by rw [← hzl.out];exact hst);have hI3b:=hI3.out.upd (hb_upd w7 q 113 ic2) (fun x hx hm=>by have h9:w5.heap.size≤x:=hf3.out x hx;rw [List.mem_singleton.1 hm] at h9;have:=hqB.out;omega);have hro3:∀ x,x∈B3→T3.ρ x=5:=fun x hx=>by rw [ev8.ru.role x (hI3.out.lt x hx)];exact hro2.out x (List.mem_append_right _ hx)
  clear hst th hc hN8;rw [show ic2.toArray.toList=ic2 from rfl];generalize w7.setCells q 113 ic2=w8 at *;replace hq3:=hq3.out.ev ev8;have hmx3:(nx,rawN false)∈T3.F:=by rw [f8,mem_fset ⟨n,hm2.out⟩];exact .inr ⟨hne.out,hx2.out⟩
  replace hS8:=qh hS8;replace ev8:=qh ev8;replace f8:=qh f8;replace n8:=qh n8;replace l8:=qh l8;replace r8:=qh r8;replace g8:=qh g8;replace hq3:=qh hq3;replace hmx3:=qh hmx3;replace hlen:=qh hlen;replace hI3b:=qh hI3b;replace hro3:=qh hro3;refine hK.out _ _ (fun h=>by cases h) ?_;clear hK K
  try simp only [Act.put,zs1,zs2,zs3]
  try simp only [Act.put]
  refine tkW 15 ?_;refine tkW 16 ?_;refine rdM 17 ?_;intro K hK;rw [if_pos (by rfl)];have hc:=hS8.out.am.at hmx3.out hq3.out;rw [show (rawN false).cs=.bool false::(zlc++zic) from rfl,← hzl.out,← hy.out] at hc;have hlen:ic3.length=8:=hI3.out.len;have th:=mn_there (o:=113) (n:=ic3.toArray.size) hc (by simp [hzlen.out,hylen.out,hlen]);refine wp_store_mid 98 (.tmp 72) (.tmp 67) rfl q2 113 ic3.toArray (by rfl) (by rfl) th (by rw [List.size_toArray,hlen];kernel_rfl) (all_oneCell_toArray hI3.out.one) ?_;have hst:=mn_set_inn hc hzlen.out (vs:=ic3) (by rw [hlen,hylen.out]);have hN9:NewND (w8.setCells q2 113 ic3) w5.heap.size ⟨.inn b.rightHalf,.bool false::(zlc++ic3),B3⟩:=(NewND.inn (base:=w5.heap.size) (by rw [(rightHalf_ends b).2.2.2];exact hbl0.out) hNr.out (by have:=(hkl.out nx).2;omega) hI3b.out hf3.out).upd (hb_upd w8 q2 113 ic3) (fun x hx=>by rw [List.mem_singleton.1 hx];exact hqB2.out);obtain ⟨T4,hS9,ev9,f9,n9,l9,r9,g9⟩:=hS8.out.store (h:=nx) hmx3.out hq3.out hN9 hro3.out (hb_upd w8 q2 113 ic3) (by rw [← hzl.out];exact hst);clear hst th hc hN9;rw [show ic3.toArray.toList=ic3 from rfl];generalize w8.setCells q2 113 ic3=w9 at *;replace hS9:=qh hS9;replace ev9:=qh ev9;replace f9:=qh f9;replace n9:=qh n9;replace l9:=qh l9;replace r9:=qh r9;replace g9:=qh g9;replace hlen:=qh hlen;refine hK.out _ _ (fun h=>by cases h) ?_;clear hK K
  try simp only [Act.put,zs1,zs2,zs3]
  try simp only [Act.put]
  refine tkW 18 ?_;refine wpAnyM_done (by kernel_rfl) ?_ _
  try simp only [Exit.then]
  go_upto_region 9 with fail;have hSd:=hS9.out.drew.rot2;refine wp_region_late [] (S:=fun W'=>W'.heap[nb]?=some (.cells #[.int .i64 nx.1,.int .u64 nx.2] 71)) rfl (hSd.get (by simp)) (fun hHeld=>?_)
  try dsimp only at hHeld
  generalize w9.drew=w9d at *;refine tkW 0 ?_;refine tkM 1 ?_ (hz:=by intro w hSw;(try dsimp only at hSw);have e2:=hSw;obtain ⟨b0,b1,bq,bf0,bf1⟩:=box2 e2;exact zf);refine tkW 2 ?_;refine rdM 3 ?_;intro K hK;obtain ⟨b0,b1,bq,bf0,bf1⟩:=box2 (hSd.get (List.mem_cons_self ..));go_simp;clear b0 b1 bq bf0 bf1;have hS12:=hSd.set2 (.int .i64 nx.1) (.int .u64 nx.2);clear hSd;have hS1:((w9d.setCell ⟨w.heap.size,0,none⟩ (.int .i64 nx.1)).setCell ⟨w.heap.size,1,none⟩ (.int .u64 nx.2)).heap[nb]?=some (.cells #[.int .i64 nx.1,.int .u64 nx.2] 71):=hS12.get (by simp);generalize ((w9d.setCell ⟨w.heap.size,0,none⟩ (.int .i64 nx.1)).setCell ⟨w.heap.size,1,none⟩ (.int .u64 nx.2))=w12 at *;replace hS12:=qh hS12;refine hK.out _ _ (fun _ _=>hS1) ?_;clear hHeld hK K;have hHeld:=hS1;clear hS1
  try simp only [Act.put,zs1,zs2,zs3]
  try simp only [Act.put]
  refine wpAnyM_done (by kernel_rfl) ?_ _
  try simp only [Exit.then]
  clear hHeld;have hld:=qh (run_loadVar_mid (P:=Tryz.prog) _ w.heap.size 0 71 [.int .i64 nx.1,.int .u64 nx.2] _ (range_of_heap (hS12.out.get (List.mem_cons_self ..))) Tryz.underlying71 rfl (by kernel_rfl));go_wp2_with fail;refine bodyPost_ret (v:=.tuple #[.string b.sep,.agg #[.int .i64 nx.1,.int .u64 nx.2]]) (by simp [results,Tryz.results115,asAddr,hld.out]) rfl ⟨nx,T4,⟨.inn (b.left nx),.bool false::(zlc++ic2),B2⟩,⟨.inn b.rightHalf,.bool false::(zlc++ic3),B3⟩,false,hg.out,rfl,hS12.out.am,hS12.out.ev,?_,rfl,rfl,.inr ⟨_,rfl⟩,.inr ⟨_,rfl⟩,?_,?_,?_,?_⟩
  ·rw [f9.out,f8.out,e2.out.1,t3.out]
  ·rw [n9.out,n8.out,e2.out.2.1,t4.out]
  ·rw [l9.out,l8.out,e2.out.2.2.1,t5.out]
  ·rw [r9.out,r8.out,e2.out.2.2.2.1,t6.out]
  ·rw [g9.out,g8.out,e2.out.2.2.2.2];exact t7.out
open Go.RowKit
theorem rng1 {w:World} {q:Nat} {g:Value} {cs:List Value} {t:TypeId} (h:w.heap[q]?=some (.cells (g::cs).toArray t)):w.rangeAt q 1 cs:=fun j v hv=>by
 rw [cell_of_heap h,zg1,show 1+j=j+1 by omega]
 exact hv
section
variable {w W:World} {x:ND} {q:Nat} {g:Value} {t:TypeId}
theorem Seen.tight (hs : Seen w x) (hc : w.heap[q]? = some (.cells (g :: x.cs).toArray t)) (hW : Below w.heap.size w W) : Calls Tryz.prog 113 #[.pointer (some ⟨q, 1, none⟩)] W fun e w' =>
    e=.returned (.bool (decide (cap (if x.bn.leaf then 0 else 1)≤x.bn.keys.length)))∧Below W.heap.size W w':=by
 have h1:=rng1 (Below.heap' hW hc)
 rcases (hs.below hW).cases with ⟨f,s1,s2,s3,s4⟩ | ⟨s1,s2,s3,ic,B,s4,s5⟩
 ·rw [s4] at h1
  have:=nd_tight_leaf (LfAt.of h1) s3;rw [s2,s1,s3.klen];exact this
 ·rw [s4] at h1
  have:=nd_tight_inn (InAt.of h1) s5;rw [s1];exact this
theorem Seen.full (hs : Seen w x) (hc : w.heap[q]? = some (.cells (g :: x.cs).toArray t)) (hW : Below w.heap.size w W) : Calls Tryz.prog 114 #[.pointer (some ⟨q, 1, none⟩)] W fun e w' =>
    e=.returned (.bool (decide (cap (if x.bn.leaf then 0 else 1) < x.bn.keys.length)))∧Below W.heap.size W w':=by
 have h1:=rng1 (Below.heap' hW hc)
 rcases (hs.below hW).cases with ⟨f,s1,s2,s3,s4⟩ | ⟨s1,s2,s3,ic,B,s4,s5⟩
 ·rw [s4] at h1
  have:=nd_full_leaf (LfAt.of h1) s3;rw [s2,s1,s3.klen];exact this
 ·rw [s4] at h1
  have:=nd_full_inn (InAt.of h1) s5;rw [s1];exact this
end
theorem lfPut_any (f : LF) (h : LFOK f) (s : Sl) (hs : SlOK s) (hc : f.cov s.m = true) (hn : hasK (mT s.m) f.bn.keys = false → f.n < 14) (w : World) :
    Calls Tryz.prog 64 #[.agg (lfc f).toArray,.agg (slc s).toArray] w fun e w'=>∃ cl co g o,e=.returned (.tuple #[.agg cl.toArray,.agg co.toArray,.bool (hasK (mT s.m) f.bn.keys)])∧cl=lfc g∧co=slc o∧LFOK g∧g.bn=f.bn.put (mT s.m) s ∧
     (hasK (mT s.m) f.bn.keys=true→f.bn.vals[cut (mT s.m) f.bn.keys]?=some o)∧Below w.heap.size w w':=by
 cases hh:hasK (mT s.m) f.bn.keys
 ·obtain ⟨a,b⟩:=h.put_new hs hc (hn hh) hh
  refine (lfPut_new f h s hs hc (hn hh) hh w).mono ?_;rintro e w' ⟨rfl,hb⟩;exact ⟨_,_,_,_,rfl,rfl,rfl,a,b,fun h=>(by cases h),hb⟩
 ·obtain ⟨a,b⟩:=h.put_old hs hh
  refine (lfPut_old f h s hs hc hh w).mono ?_;rintro e w' ⟨rfl,hb⟩;refine ⟨_,_,_,_,rfl,rfl,rfl,a,b,fun _=>?_,hb⟩;obtain ⟨k,hk⟩:=List.getElem?_eq_some_iff.1 (hasK_iff.1 hh);rw [h.klen] at k;exact h.vget k
section
variable {w0 w:World} {T:TS} {Y:List Ly} {C:Cont Str} {l:Ly}
set_option maxRecDepth 100000 in
set_option maxHeartbeats 1000000 in
theorem MTr.need (h : MTr w0 w T Y C) (hl : l ∈ Y) (key : Str) {base : Nat} {a : Option Addr} {c : Nat} (hrow : Row base 71 2 hcel w (.slice a l.Ls.length c) (pathOf l.Ls key)) :
    Calls Tryz.prog 68 #[.pointer (some ⟨T.t,0,none⟩),.slice a l.Ls.length c] w fun e w'=>e=.returned (.int .i64 ((needOf 0 l.Ls key:Nat):Int))∧Below w.heap.size w w':=by
 have c1:=h.am.cells.2.1
 have htw:=h.sane.ok.tow l hl
 have hll:=h.sane.len l hl
 have hEn:=qh fun (x:Hd×BN Sl) (hx:x∈l.Ls.flatten)=>h.node (x:=x) (List.mem_flatMap.2 ⟨l,hl,hx⟩)
 obtain ⟨Ls,hLs⟩:∃ x,x=l.Ls:=⟨_,rfl⟩
 rw [← hLs] at htw hll hEn hrow ⊢
 obtain ⟨A,hA⟩:∃ a,a=T.d.A.a:=⟨_,rfl⟩
 rw [← hA] at c1 hEn
 obtain ⟨t,ht⟩:∃ t,t=T.t:=⟨_,rfl⟩
 rw [← ht] at c1 ⊢
 replace hA:=qh hA
 replace ht:=qh ht
 replace hLs:=qh hLs
 replace htw:=qh htw
 replace hrow:=qh hrow
 obtain ⟨N,hN⟩:∃ N,N=Ls.length:=⟨_,rfl⟩
 rw [← hN] at hrow ⊢
 have hN1:N≤1000:=by omega
 replace hN:=qh hN
 clear h hl hll
 unfold hV at hEn
 go_enter Tryz.func68,Tryz.ntmps68
 go_wp2_with fail
 go_loopg [10] (N+1) (fun gk v wr=>∃ (i:Nat),gk=N+1 - i∧i≤N∧v=.int .i64 i∧needOf 0 Ls key=i+needOf i (Ls.drop i) key∧Below w.heap.size w wr)
 case atStart=>exact ⟨0,rfl,Nat.zero_le _,rfl,by simp,Below.refl _ _⟩
 case round =>
  obtain ⟨i,rfl,hiN,rfl,hnd,hB⟩:=hrel;by_cases hlt:i < N
  ·have hil:i < Ls.length:=by rw [← hN.out];exact hlt
   have hR:Ls[i]?=some Ls[i]:=List.getElem?_eq_getElem hil;obtain ⟨x,hx⟩:=htw.out.at hR key;have hstep:=need_step hR hx;have hpg:=pathOf_get hR hx;rw [← hN.out] at hpg;have hlf:x.2.leaf=decide (i=0):=(htw.out.ok i _ hR).lf x (atK_mem hx).1;obtain ⟨e,nd,_,hbn,_,_,_,hcel0,hseen,hG⟩:=hEn.out x (mem_flat hR (atK_mem hx).1)
   have hcap:cap (if nd.bn.leaf then 0 else 1)=cap i:=by
    rw [hbn,hlf];by_cases h0:i=0
    ·simp [h0]
    ·simp [h0,cap]
   have hTi:=qh fun W hW=>hseen.tight hcel0 (W:=W) hW
   rw [hcap,hbn] at hTi;obtain ⟨b',cap',ev,_,hb1,hb2,hb3,hb4,hb5,hat⟩:=hrow.out.at hpg;injection ev with ev hle ev2;clear hle;subst ev ev2;have k0:=keep hB (hat 0 _ rfl);have k1:=keep hB (hat 1 _ rfl);rw [Nat.add_zero] at k0;clear hat hb5 hb3 hbn;have c1':=keep hB c1;obtain ⟨⟨h1,h2⟩,n⟩:=x;simp only at hG k0 k1 hstep hTi;obtain ⟨q,hq⟩:∃ q,q=e.blk:=⟨_,rfl⟩;rw [← hq] at hG hTi;clear hx hR hq hcel0 hseen hcap hlf;have hbl:b' < wr.heap.size:=Nat.lt_of_lt_of_le hb2 hB.size;have hw1:IntKind.i64.wrap ((N:Int) - 1)=(N:Int) - 1:=IntWalk.i64_in _ (by omega);have hw2:IntKind.i64.wrap ((N:Int) - 1 - (i:Int))=((N - 1 - i:Nat):Int):=by rw [show ((N:Int) - 1 - (i:Int))=((N - 1 - i:Nat):Int) by omega];exact IntWalk.i64_in _ (by omega)
   obtain ⟨p,hp⟩:∃ p,p=N - 1 - i:=⟨_,rfl⟩;rw [← hp] at hw2 k0 k1;have hp1:p < N:=by omega
   have hp2:(p:Int) < (N:Int):=by omega
   replace hp:=qh hp;replace hG:=qh hG;replace hB:=qh hB;replace hstep:=qh hstep;replace hnd:=qh hnd;obtain ⟨bt,hbt⟩:∃ bt,bt=decide (cap i≤n.keys.length):=⟨_,rfl⟩;rw [← hbt] at hTi;replace hbt:=qh hbt;go_upto_region 4 with fail
   go_region_with (go_at_call 62;refine (hG.out _ hB.out.drew).mono ?_;rintro z1 w1 ⟨rfl,hb1'⟩;have hbw:=hB.out.drew.trans (hb1'.mono hB.out.drew.size);replace hbw:=qh hbw;clear hb1')
   all_goals
    go_wp2_with fail;refine (hTi.out _ hbw.out).mono ?_;rintro z2 w2 ⟨rfl,hb2'⟩;have hbw2:=qh (hbw.out.trans (hb2'.mono hbw.out.size));clear hb2'
    cases bt
    ·go_wp2_with fail
     go_ret;have e5:=hnd.out
     have h4:n.keys.length < cap i:=by
      have:=hbt.out;simp at this;exact this
     rw [hstep.out,if_pos h4] at e5;exact ⟨by rw [e5];rfl,hbw2.out⟩
    ·go_wp2_with fail
     go_roundg (N - i)
     case rel =>
      have e5:=hnd.out
      have h4:¬ n.keys.length < cap i:=by
       have:=hbt.out;simp at this;omega
      rw [hstep.out,if_neg h4] at e5;exact ⟨i+1,by omega,by omega,by go_num,by omega,hbw2.out⟩
     case measure=>omega
  ·obtain rfl:i=N:=by omega
   have hw1:IntKind.i64.wrap ((i:Int)+1)=(i:Int)+1:=IntWalk.i64_in _ (by omega)
   have e5:needOf 0 Ls key=i+1:=by
    rw [hnd,List.drop_eq_nil_of_le (by have:=hN.out;omega)];rfl
   replace hnd:=qh hnd;replace e5:=qh e5;go_wp2_with fail;go_ret;exact ⟨by rw [e5.out];simp,hB⟩
end
open Go.RowKit
section
variable {w0 w W W':World} {T T1:TS} {L A B:List (Nat×Obj)} {x:Nat×Obj} {q:Nat} {o:Obj} {t:TypeId}
theorem MS.rot (A:List (Nat×Obj)) (x:Nat×Obj) (B:List (Nat×Obj)) (hS:MS w0 w T W T1 (A++x::B)):MS w0 w T W T1 (x::(A++B)):=hS.perm List.perm_middle
theorem MS.sub {L':List (Nat×Obj)} (hS:MS w0 w T W T1 L) (hp:L'.Sublist L):MS w0 w T W T1 L':=⟨hS.am,hS.ev,fun x hx=>hS.own x (hp.subset hx),hS.nd.sublist (hp.map _),hS.le⟩
theorem MS.add (hS:MS w0 w T W T1 L) (ho:W.heap[q]?=some o) (hge:w.heap.size≤q) (hr:T1.ρ q=0) (hn:∀ x,x∈L→x.1 < q):MS w0 w T W T1 ((q,o)::L):=by
 refine ⟨hS.am,hS.ev,fun x hx=>?_,?_,hS.le⟩
 ·rcases List.mem_cons.1 hx with rfl | hx
  ·exact ⟨ho,hge,hr⟩
  ·exact hS.own x hx
 ·rw [List.map_cons,List.nodup_cons]
  refine ⟨fun hm=>?_,hS.nd⟩;obtain ⟨y,hy,e⟩:=List.mem_map.1 hm;have:=hn y hy;simp only at e;omega
theorem MS.getQ {h:Hd} {b:Nat} (hS:MS w0 w T W T1 L) (hq:EntAt T1 h b):Calls Tryz.prog 62 #[.pointer (some ⟨T.d.A.a,0,none⟩),hV h] W fun y W'=>y=.returned (.tuple #[.pointer (some ⟨b,1,none⟩),.bool true])∧Below W.heap.size W W':=by
 obtain ⟨e,e1,e2,e3,rfl⟩:=hq.ex
 rw [← hS.ev.a]
 exact hS.am.bw.get hS.am.hd hS.am.ta hS.am.tc e1 e2 e3
theorem MS.nth (hS:MS w0 w T W T1 L) (i:Nat) (h:L[i]?=some (q,o)):W.heap[q]?=some o:=(hS.own _ (List.mem_of_getElem? h)).1
theorem MS.setV {c:Array Value} (hS:MS w0 w T W T1 ((q,.cells c t)::L)) (vs:List Value) (hl:vs.length=c.size):MS w0 w T (W.setCells q 0 vs) T1 ((q,.cells vs.toArray t)::L) :=
 hS.set (hb_upd W q 0 vs) (hb_wholeA (hS.get (List.mem_cons_self ..)) hl)
theorem box6 {w : World} {b : Nat} {v0 v1 v2 v3 v4 v5 : Value} {t : TypeId} (h : w.heap[b]? = some (.cells #[v0, v1, v2, v3, v4, v5] t)) :
    w.cell? ⟨b,0,none⟩=some v0∧w.cell? ⟨b,1,none⟩=some v1∧w.cell? ⟨b,2,none⟩=some v2∧w.cell? ⟨b,3,none⟩=some v3∧w.cell? ⟨b,4,none⟩=some v4∧w.cell? ⟨b,5,none⟩=some v5∧b < w.heap.size∧w.frozen? ⟨b,1,none⟩=false:=by
 refine ⟨?_,?_,?_,?_,?_,?_,heap_lt h,frozen_of_heap h _⟩ <;> rw [cell_of_heap h] <;> rfl
theorem Row.obj {α:Type} {base k:Nat} {e:TypeId} {f:α→List Value} {v:Value} {R:List α} (h:Row base e k f w v R) {b:Nat} (hb:v.ownBlock=some b):∃ o,w.heap[b]?=some o∧base≤b∧∀ W,W.heap[b]?=some o→Row base e k f W v R:=by
 rcases h.2.2.2 with ⟨rfl,_⟩ | ⟨g,cap,cur,rfl,h3,h4,h5⟩
 ·cases hb
 ·injection hb with hb
  subst hb;exact ⟨_,h4,h3,fun W hW=>⟨h.1,h.2.1,h.2.2.1,.inr ⟨g,cap,cur,rfl,h3,hW,h5⟩⟩⟩
end
def UpAt (Y:List Ly) (l:Ly) (i:Nat) (up:Hd) (mk:Mk):Prop:=i=0∨∃ lp sp,lp∈Y∧M.cget (content lp.Ls) (mT sp.m)=some sp∧sp.deep=true∧l.pre=lp.pre++ube 8 sp.m.s∧mk=sp.m∧up=hdl (mT sp.m) (lp.Ls.getD 0 [])
theorem On.stepP {F:List Ly} {k:Str} {i:Nat} {l:Ly} {s:Sl} (h:MOK F) (ho:On F k i l) (hg:M.cget (content l.Ls) (mT (mkAt k i))=some s) (hd:s.deep=true):∃ l',On F k (i+1) l'∧l'.r=s.link∧l'.pre=l.pre++ube 8 s.m.s:=by
 obtain ⟨l',a,b⟩:=ho.step h hg hd
 refine ⟨l',a,b,?_⟩
 obtain ⟨hm,hs⟩:=h.slot ho.mem (mkOf_b _) hg
 have h9:=(hs.dp hd).1
 rw [hm] at h9 ⊢
 have hlen:=cls9 h9
 rw [a.pre,ho.pre,ube_mk _ (by omega)]
 show (bl k).take (8*(i+1))=(bl k).take (8*i)++((bl k).drop (8*i)).take 8
 rw [show 8*(i+1)=8*i+8 by omega,List.take_add]
def FindE (w0 w:World) (T:TS) (Y:List Ly) (key:Str) (e:Ending) (w':World):Prop :=
 ∃ (i:Nat) (l:Ly) (pa pc:Nat) (up:Hd) (mk:Mk) (s:Sl) (is:Bool) (po:Obj),e=.returned (.tuple #[.agg #[.int .i64 ((i:Nat):Int),.slice (some ⟨pa,0,none⟩) l.Ls.length pc,.int .i64 up.1,.int .u64 up.2,.int .u64 ((mk.s:Nat):Int),.int .u8 ((mk.c:Nat):Int)],.agg (slc s).toArray,.bool is]) ∧
  On Y key i l∧UpAt Y l i up mk∧(w'.heap[pa]?=some po∧w.heap.size≤pa∧∀ W,W.heap[pa]?=some po→Row w.heap.size 71 2 hcel W (.slice (some ⟨pa,0,none⟩) l.Ls.length pc) (pathOf l.Ls (mT (mkAt key i)))) ∧
  AM w0 w' T∧TEv w w' T T∧(is=true→M.cget (content l.Ls) (mT (mkAt key i))=some s∧s.deep=false)∧(is=false→M.cget (content l.Ls) (mT (mkAt key i))=none)
set_option maxRecDepth 100000 in
set_option maxHeartbeats 2500000 in
theorem MTr.find {w0 w:World} {T:TS} {Y:List Ly} {C:Cont Str} (h:MTr w0 w T Y C) (key:Str) (hk:key.size≤100000000):Calls Tryz.prog 61 #[.pointer (some ⟨T.t,0,none⟩),.string key] w (FindE w0 w T Y key):=by
 obtain ⟨l0,F',hY,hr0⟩:=h.ro
 obtain ⟨l2,F2,e3,hon0⟩:=on_root h.sane.ok key
 rw [hY] at e3
 injection e3 with e3 e4
 clear e4
 subst e3
 have hM:=h.sane.ok
 have hTr:=qh fun W (hA:AM w0 W T)=>(⟨hA,h.sane,h.ct,h.ro,h.fl,h.kd,h.ly,h.n⟩:MTr w0 W T Y C)
 obtain ⟨A,hAe⟩:∃ a,a=T.d.A.a:=⟨_,rfl⟩
 have htl:=block_lt_of_cell h.am.cells.2.1
 have c2:=h.am.cells.2.2.1
 have c3:=h.am.cells.2.2.2.1
 rw [← hr0] at c2 c3
 have hS0:=((((MS.start h.am).box (.cells #[.int .i64 0,.slice none 0 0,.int .i64 0,.int .u64 0,.int .u64 0,.int .u8 0] 120)).box (.cells #[.int .u64 0,.int .u8 0,.string ⟨#[]⟩,.string ⟨#[]⟩,.bool false,.int .i64 0,.int .u64 0] 92)).box (.cells #[.int .i64 0,.slice none 0 0,.int .i64 0,.int .u64 0,.int .u64 0,.int .u8 0] 120)).box (.cells #[.int .i64 l0.r.1,.int .u64 l0.r.2] 71)
 obtain ⟨wa,hwa⟩:∃ W,W=(((w.alloc (.cells #[.int .i64 0,.slice none 0 0,.int .i64 0,.int .u64 0,.int .u64 0,.int .u8 0] 120)).alloc (.cells #[.int .u64 0,.int .u8 0,.string ⟨#[]⟩,.string ⟨#[]⟩,.bool false,.int .i64 0,.int .u64 0] 92)).alloc (.cells #[.int .i64 0,.slice none 0 0,.int .i64 0,.int .u64 0,.int .u64 0,.int .u8 0] 120)).alloc (.cells #[.int .i64 l0.r.1,.int .u64 l0.r.2] 71):=⟨_,rfl⟩
 rw [← hwa] at hS0
 have hb3:=(((Below.refl w.heap.size w).alloc (Nat.le_refl _) (.cells #[.int .i64 0,.slice none 0 0,.int .i64 0,.int .u64 0,.int .u64 0,.int .u8 0] 120)).alloc (by simp) (.cells #[.int .u64 0,.int .u8 0,.string ⟨#[]⟩,.string ⟨#[]⟩,.bool false,.int .i64 0,.int .u64 0] 92)).alloc (by simp;omega) (.cells #[.int .i64 0,.slice none 0 0,.int .i64 0,.int .u64 0,.int .u64 0,.int .u8 0] 120)
 have c2b:=keep hb3 c2
 have c3b:=keep hb3 c3
 clear hb3
 have q1:(w.alloc (.cells #[.int .i64 0,.slice none 0 0,.int .i64 0,.int .u64 0,.int .u64 0,.int .u8 0] 120)).heap.size=w.heap.size+1:=by simp
 have q2:((w.alloc (.cells #[.int .i64 0,.slice none 0 0,.int .i64 0,.int .u64 0,.int .u64 0,.int .u8 0] 120)).alloc (.cells #[.int .u64 0,.int .u8 0,.string ⟨#[]⟩,.string ⟨#[]⟩,.bool false,.int .i64 0,.int .u64 0] 92)).heap.size=w.heap.size+1+1:=by simp
 have q3:(((w.alloc (.cells #[.int .i64 0,.slice none 0 0,.int .i64 0,.int .u64 0,.int .u64 0,.int .u8 0] 120)).alloc (.cells #[.int .u64 0,.int .u8 0,.string ⟨#[]⟩,.string ⟨#[]⟩,.bool false,.int .i64 0,.int .u64 0] 92)).alloc (.cells #[.int .i64 0,.slice none 0 0,.int .i64 0,.int .u64 0,.int .u64 0,.int .u8 0] 120)).heap.size=w.heap.size+1+1+1:=by simp
 rw [q1,q2,q3] at hS0
 clear q1 q2 q3
 clear hr0 hY
 replace hwa:=qh hwa
 replace hS0:=qh hS0
 replace hAe:=qh hAe
 replace hM:=qh hM
 replace h:=qh h
 go_enter Tryz.func61,Tryz.ntmps61
 go_wp2_with fail
 rw [← hwa.out]
 clear c2b c3b c2 c3
 obtain ⟨HB,hHB⟩:∃ b,b=w.heap.size+1+1+1:=⟨_,rfl⟩
 obtain ⟨XB,hXB⟩:∃ b,b=w.heap.size+1+1:=⟨_,rfl⟩
 obtain ⟨SB,hSB⟩:∃ b,b=w.heap.size+1:=⟨_,rfl⟩
 obtain ⟨PB,hPB⟩:∃ b,b=w.heap.size:=⟨_,rfl⟩
 rw [← hHB,← hXB,← hSB,← hPB] at hS0 ⊢
 have hge:Hid (w.heap.size≤PB):=qh (by omega)
 replace hHB:=qh hHB
 replace hXB:=qh hXB
 replace hSB:=qh hSB
 replace hPB:=qh hPB
 go_loopg [] (key.size+1) (fun gk wr=>∃ (i:Nat) (l:Ly) (up:Hd) (mk:Mk),gk=key.size+1 - i∧On Y key i l∧UpAt Y l i up mk∧MS w0 w T wr T [(HB,.cells #[.int .i64 l.r.1,.int .u64 l.r.2] 71),(XB,.cells #[.int .i64 ((i:Nat):Int),.slice none 0 0,.int .i64 up.1,.int .u64 up.2,.int .u64 ((mk.s:Nat):Int),.int .u8 ((mk.c:Nat):Int)] 120),(SB,.cells #[.int .u64 0,.int .u8 0,.string ⟨#[]⟩,.string ⟨#[]⟩,.bool false,.int .i64 0,.int .u64 0] 92),(PB,.cells #[.int .i64 0,.slice none 0 0,.int .i64 0,.int .u64 0,.int .u64 0,.int .u8 0] 120)])
 case atStart=>exact ⟨0,l0,(0,0),⟨0,0⟩,rfl,hon0,.inl rfl,hS0.out⟩
 case round =>
  obtain ⟨i,l,up,mk,rfl,hon,hup,hS⟩:=hrel;clear hS0 hwa hon0;have hik:i≤key.size:=hon.lt.elim (fun h9=>by omega) (fun h9=>by have:(bl key).length=key.size:=rfl;omega);have hmk:MkOK (mkAt key i):=mkOf_ok (keyAt key i);have hMo:=qh fun W=>mkOf_any key i (by omega) (by omega) W
  have hsl:=qh hon;have htw:=hM.out.tow l hon.mem;obtain ⟨x0,hx0⟩:=htw.top;have hlen0:=(List.getElem?_eq_some_iff.1 hx0).1;obtain ⟨R0,hR⟩:∃ R,l.Ls[0]?=some R:=⟨_,List.getElem?_eq_getElem (by omega)⟩;obtain ⟨⟨x1,xn⟩,hx⟩:=htw.at hR (mT (mkAt key i));have hpg:=pathOf_get hR hx;obtain ⟨⟨lo,hno⟩,hlf,hget⟩:=htw.get hR hx;have hTr1:=hTr.out _ hS.am;obtain ⟨nd,hnF,hbn,hseen⟩:∃ nd,(x1,nd)∈T.F∧nd.bn=xn∧Seen wr nd:=by obtain ⟨e,nd,a,b,_,_,_,_,c,_⟩:=hTr1.node (x:=(x1,xn)) (List.mem_flatMap.2 ⟨l,hon.mem,mem_flat hR (atK_mem hx).1⟩);exact ⟨nd,a,b,c⟩
  simp only at hbn hlf hget hpg;obtain ⟨q,hq,_⟩:=hS.getE hnF;have hG:Hid (∀ W L,MS w0 w T W T L→Calls Tryz.prog 62 #[.pointer (some ⟨A,0,none⟩),hV x1] W fun y W'=>y=.returned (.tuple #[.pointer (some ⟨q,1,none⟩),.bool true])∧Below W.heap.size W W'):=qh fun W L hS=>by rw [hAe.out];exact hS.getQ hq
  have hfx:∃ f,nd.bn=f.bn∧LFOK f∧nd.cs=.bool true::(lfc f++zic):=hseen.cases.elim (fun ⟨f,s1,s2,s3,s4⟩=>⟨f,s1,s3,s4⟩) (fun ⟨s1,_⟩=>by rw [hbn,hlf] at s1;cases s1);obtain ⟨f,hfb,hf,hcs⟩:=hfx;rw [hbn] at hfb;subst hfb;simp only at hnF hq hno;have hAt:Hid (∀ W L,MS w0 w T W T L→W.heap[q]?=some (.cells (.int .u64 x1.2::.bool true::(lfc f++zic)).toArray 192)):=qh fun W L hS=>by have:=hS.am.at hnF hq;rw [hcs] at this;exact this
  have hcutle:cut (mT (mkAt key i)) f.bn.keys≤f.n:=by rw [← hf.klen];exact cut_le _ _
  have hFi:=qh fun W=>lfFind_any f hf (mkAt key i) hmk W
  have hLa:=qh fun W=>lfAt_any f hf _ hcutle W
  have hPa:Hid (∀ W L,MS w0 w T W T L→Calls Tryz.prog 108 #[.pointer (some ⟨T.t,0,none⟩),hV l.r,mkV (mkAt key i)] W (PathEnd W (pathOf l.Ls (mT (mkAt key i))))):=qh fun W L hS=>(hTr.out W hS.am).path hon.mem hmk
  have hhas:=hf.has hmk;have hvg:Hid (∀ r,r < f.n→f.bn.vals[r]?=some (f.slot r)):=qh fun r hr=>hf.vget hr
  have hcl:=lfc_len hf.S;obtain ⟨m,hm⟩:∃ m,m=mkAt key i:=⟨_,rfl⟩;rw [← hm] at hMo hFi hLa hPa hhas hget hpg hcutle hx hmk;obtain ⟨r,hr⟩:∃ r,r=cut (mT m) f.bn.keys:=⟨_,rfl⟩;obtain ⟨hs,hhs⟩:∃ b,b=hasK (mT m) f.bn.keys:=⟨_,rfl⟩;rw [← hr] at hFi hLa hhas hget hcutle;rw [← hhs] at hFi hhas hget;obtain ⟨sl,hsl2⟩:∃ s,s=f.slot r:=⟨_,rfl⟩;obtain ⟨bi,hbi⟩:∃ b,b=decide (r < f.n):=⟨_,rfl⟩;rw [← hsl2] at hLa hhas;rw [← hbi] at hLa;unfold lfV slV at hLa;obtain ⟨dp,hdp⟩:∃ b,b=sl.deep:=⟨_,rfl⟩;rw [← hdp] at hLa;replace hdp:=qh hdp;unfold lfV mkV at hFi;unfold mkV at hMo;unfold mkV hV at hPa;unfold hV at hG;obtain ⟨cs,hcse⟩:∃ c,c=lfc f:=⟨_,rfl⟩;rw [← hcse] at hLa hFi hAt hcl;obtain ⟨y,hy⟩:∃ c,c=zic:=⟨_,rfl⟩;rw [← hy] at hAt;have hgt:hs=true→M.cget (content l.Ls) (mT m)=some sl∧sl.m=m:=fun h9=>⟨by rw [hget,if_pos h9,hvg.out r (hhas.1 h9).1,hsl2],(hhas.1 h9).2⟩
  have hgn:hs=false→M.cget (content l.Ls) (mT m)=none:=fun h9=>by rw [hget,if_neg (by rw [h9];simp)]
  have hupx:Hid (∀ s:Sl,s.m=m→x1=hdl (mT s.m) (l.Ls.getD 0 [])):=qh fun s hs9=>by rw [hs9,List.getD_eq_getElem?_getD,hR];exact (hdl_of hx).symm
  obtain ⟨N,hN⟩:∃ N,N=l.Ls.length:=⟨_,rfl⟩;have hN0:0 < N:=by omega
  have hN1:N≤1000:=by rw [hN];exact hTr1.sane.len l hon.mem
  rw [← hN,Nat.sub_zero] at hpg;have hplen:=pathOf_len l.Ls (mT m);rw [← hN] at hplen;obtain ⟨P,hP⟩:∃ P,P=pathOf l.Ls (mT m):=⟨_,rfl⟩;rw [← hP] at hPa hpg hplen;have hxb:w.heap.size≤wr.heap.size:=hS.ev.ru.size;replace hmk:=qh hmk;replace hsl:=qh hsl;replace hx:=qh hx;replace hR:=qh hR;replace hno:=qh hno;replace hlf:=qh hlf;replace hget:=qh hget;replace hTr1:=qh hTr1;replace hnF:=qh hnF;replace hbn:=qh hbn;replace hseen:=qh hseen;replace hq:=qh hq;replace hf:=qh hf;replace hcs:=qh hcs;replace hcutle:=qh hcutle;replace hhas:=qh hhas;replace hcl:=qh hcl;replace hm:=qh hm;replace hr:=qh hr;replace hhs:=qh hhs;replace hsl2:=qh hsl2;replace hbi:=qh hbi;replace hcse:=qh hcse;replace hy:=qh hy;replace hgt:=qh hgt;replace hgn:=qh hgn;replace hpg:=qh hpg;replace hN:=qh hN;replace hplen:=qh hplen;replace hP:=qh hP;replace hon:=qh hon;replace hup:=qh hup;replace hS:=qh hS;clear hx0 hlen0;obtain ⟨x6a,x6b,x6c,x6d,x6e,x6f,x6g,x6h⟩:=box6 (hS.out.nth 1 rfl);go_wp2_with fail;refine (hMo.out _).mono ?_;rintro z1 w1 ⟨rfl,hb⟩;have hS1:=(hS.out.below hb).box (.cells #[.int .u64 ((m.s:Nat):Int),.int .u8 ((m.c:Nat):Int)] 90);clear hb x6a x6b x6c x6d x6e x6f x6g x6h;replace hS1:=qh hS1;go_upto_region 4 with fail;obtain ⟨w2,hw2⟩:∃ W,W=w1.alloc (.cells #[.int .u64 ((m.s:Nat):Int),.int .u8 ((m.c:Nat):Int)] 90):=⟨_,rfl⟩;rw [← hw2] at hS1 ⊢
  obtain ⟨MB,hMB⟩:∃ b,b=w1.heap.size:=⟨_,rfl⟩;rw [← hMB] at hS1 ⊢;replace hw2:=qh hw2;replace hMB:=qh hMB;obtain ⟨m0,m1,mq,mf0,mf1⟩:=box2 (hS1.out.nth 0 rfl);obtain ⟨g0,g1,gq,gf0,gf1⟩:=box2 (hS1.out.nth 1 rfl);go_wp2_with fail;refine (hPa.out _ _ hS1.out).mono ?_;rintro z2 w3 ⟨pa0,pc,rfl,hrow,hb⟩;rw [hplen.out] at hrow ⊢;clear m0 m1 mq mf0 mf1 g0 g1 gq gf0 gf1;obtain ⟨pa,cap,ev,hown,hpge,hpl,hNc,hcm,hNl,hat⟩:=hrow.at hpg.out;injection ev with ev hle ev2;clear hle;subst ev ev2;have k0:=hat 0 _ rfl;have k1:=hat 1 _ rfl;clear hat hNl;rw [Nat.add_zero] at k0;rw [hplen.out] at hNc;obtain ⟨po,ho,_,hrw⟩:=Row.obj hrow hown;have hpf:T.ρ pa=0:=hS1.out.am.bw.ro.far _ hpge;have hpw:w.heap.size≤pa:=Nat.le_trans hS1.out.ev.ru.size hpge;have hS3:=(hS1.out.below hb).add ho hpw hpf (fun x hx=>Nat.lt_of_lt_of_le (heap_lt (hS1.out.own x hx).1) hpge);have hrwb:Hid (∀ W:World,W.heap[pa]?=some po→Row w.heap.size 71 2 hcel W (.slice (some ⟨pa,0,none⟩) N pc) P):=qh fun W hW=>(hrw W hW).rebase (fun b hb=>by injection hb with hb;rw [← hb];exact hpw)
  have hpk:Hid (∀ W:World,W.heap[pa]?=some po→W.cell? ⟨pa,(N - 1)*2,none⟩=some (.int .i64 x1.1)∧W.cell? ⟨pa,(N - 1)*2+1,none⟩=some (.int .u64 x1.2)):=qh fun W hW=>⟨by rw [← k0];exact World.cell?_of_block (hW.trans ho.symm),by rw [← k1];exact World.cell?_of_block (hW.trans ho.symm)⟩
  clear k0 k1 hrw hrow hown hb ho;replace hS3:=qh hS3;replace hpf:=qh hpf;replace hpw:=qh hpw;replace hpge:=qh hpge;replace hpl:=qh hpl;replace hcm:=qh hcm;obtain ⟨x6a,x6b,x6c,x6d,x6e,x6f,x6g,x6h⟩:=box6 (hS3.out.nth 3 rfl);go_upto_region 5 with fail;clear x6a x6b x6c x6d x6e x6f x6g x6h;have hS4:MS w0 w T (w3.setCell ⟨XB,1,none⟩ (.slice (some ⟨pa,0,none⟩) N pc)) T [(XB,.cells #[.int .i64 ((i:Nat):Int),.slice (some ⟨pa,0,none⟩) N pc,.int .i64 up.1,.int .u64 up.2,.int .u64 ((mk.s:Nat):Int),.int .u8 ((mk.c:Nat):Int)] 120),(pa,po),(MB,.cells #[.int .u64 ((m.s:Nat):Int),.int .u8 ((m.c:Nat):Int)] 90),(HB,.cells #[.int .i64 l.r.1,.int .u64 l.r.2] 71),(SB,.cells #[.int .u64 0,.int .u8 0,.string ⟨#[]⟩,.string ⟨#[]⟩,.bool false,.int .i64 0,.int .u64 0] 92),(PB,.cells #[.int .i64 0,.slice none 0 0,.int .i64 0,.int .u64 0,.int .u64 0,.int .u8 0] 120)]:=(hS3.out.rot [_,_,_] _ _).set ((Upd.refl [XB] w3).setCell (p:=⟨XB,1,none⟩) (by simp) _) (by rw [heap_set_same (hS3.out.nth 3 rfl) 1 _];rfl);generalize w3.setCell ⟨XB,1,none⟩ (.slice (some ⟨pa,0,none⟩) N pc)=w4 at *;replace hS4:=qh hS4;obtain ⟨p,hp⟩:∃ p,p=N - 1:=⟨_,rfl⟩;rw [← hp] at hpk;have hw1:IntKind.i64.wrap ((N:Int) - 1)=(p:Int):=by rw [show ((N:Int) - 1)=(p:Int) by omega];exact IntWalk.i64_in _ (by omega)
  have hp1:p < N:=by omega
  have hp2:(p:Int) < (N:Int):=by omega
  replace hp:=qh hp;have hSd:=hS4.out.drew;refine wp_region_late [] (S:=fun W'=>W'.cell? ⟨T.t,1,none⟩=some (.pointer (some ⟨A,0,none⟩))∧W'.heap[XB]?=some (.cells #[.int .i64 ((i:Nat):Int),.slice (some ⟨pa,0,none⟩) N pc,.int .i64 up.1,.int .u64 up.2,.int .u64 ((mk.s:Nat):Int),.int .u8 ((mk.c:Nat):Int)] 120)∧W'.heap[pa]?=some po) rfl (⟨by rw [hAe.out];exact hSd.tree,hSd.nth 0 rfl,hSd.nth 1 rfl⟩) (fun hHeld=>?_)
  try dsimp only at hHeld
  refine tkW 0 ?_;refine tkW 1 ?_;refine tkW 2 ?_;refine tkM 3 ?_ (hz:=by rintro w ⟨e1,e2,e3⟩;obtain ⟨d0,d1,d2,d3,d4,d5,d6,d7⟩:=box6 e2;obtain ⟨k0,k1⟩:=hpk.out _ e3;have kl:=heap_lt e3;exact zf);refine tkW 4 ?_;refine tkM 5 ?_ (hz:=by rintro w ⟨e1,e2,e3⟩;obtain ⟨d0,d1,d2,d3,d4,d5,d6,d7⟩:=box6 e2;obtain ⟨k0,k1⟩:=hpk.out _ e3;have kl:=heap_lt e3;exact zf);refine tkW 6 ?_;refine tkM 7 ?_ (hz:=by rintro w ⟨e1,e2,e3⟩;obtain ⟨d0,d1,d2,d3,d4,d5,d6,d7⟩:=box6 e2;obtain ⟨k0,k1⟩:=hpk.out _ e3;have kl:=heap_lt e3;exact zf);refine tkW 8 ?_;refine tkW 9 ?_;refine tkW 10 ?_;refine tkM 11 ?_ (hz:=by rintro w ⟨e1,e2,e3⟩;obtain ⟨d0,d1,d2,d3,d4,d5,d6,d7⟩:=box6 e2;obtain ⟨k0,k1⟩:=hpk.out _ e3;have kl:=heap_lt e3;exact zf);refine rdM 12 ?_;intro K hK;go_simp;go_at_call 62;refine (hG.out _ _ hSd).mono ?_;rintro z3 w5 ⟨rfl,hb⟩;have hS5:=hSd.below hb;clear hb;have hS1x:w5.cell? ⟨T.t,1,none⟩=some (.pointer (some ⟨A,0,none⟩))∧w5.heap[XB]?=some (.cells #[.int .i64 ((i:Nat):Int),.slice (some ⟨pa,0,none⟩) N pc,.int .i64 up.1,.int .u64 up.2,.int .u64 ((mk.s:Nat):Int),.int .u8 ((mk.c:Nat):Int)] 120)∧w5.heap[pa]?=some po:=⟨by rw [hAe.out];exact hS5.tree,hS5.nth 0 rfl,hS5.nth 1 rfl⟩;have hS1y:=hS1x;clear hS1x;replace hS5:=qh hS5;go_wp2_with fail;refine hK.out _ _ (fun _ _=>hS1y) ?_;clear hHeld hK K;have hHeld:=hS1y;clear hS1y
  try simp only [Act.put,zs1,zs2,zs3]
  try simp only [Act.put]
  refine tkW 13 ?_;refine tkW 14 ?_;refine tkW 15 ?_;refine tkW 16 ?_;refine tkW 17 ?_;refine wpAnyM_done (by kernel_rfl) ?_ _
  try simp only [Exit.then]
  clear hHeld hSd;clear hw1 hp1 hp2;go_upto_region 6 with fail;have hSd:=hS5.out.drew;refine wp_region_late [] (S:=fun W'=>W'.heap[q]?=some (.cells (.int .u64 x1.2::.bool true::(cs++y)).toArray 192)∧W'.heap[MB]?=some (.cells #[.int .u64 ((m.s:Nat):Int),.int .u8 ((m.c:Nat):Int)] 90)) rfl (⟨hAt.out _ _ hSd,hSd.nth 2 rfl⟩) (fun hHeld=>?_)
  try dsimp only at hHeld
  refine tkW 0 ?_;refine tkW 1 ?_;refine tkW 2 ?_;refine ykM 3 ?_ (hy:=yieldsIf_load_mid (by rfl) 95 (.tmp 49) rfl q 2 (by rfl) cs _ (fun w hw=>range_mid hw.1 hcl.out) Tryz.underlying95 rfl (by rw [hcl.out];kernel_rfl));refine tkM 4 ?_ (hz:=by rintro w ⟨e1,e2⟩;obtain ⟨b0,b1,bq,bf0,bf1⟩:=box2 e2;exact zf);refine rdM 5 ?_;intro K hK;go_simp;go_at_call 53;refine (hFi.out _).mono ?_;rintro z3 w6 ⟨rfl,hb⟩;have hS6:=hSd.below hb;clear hb;have hS1y:w6.heap[q]?=some (.cells (.int .u64 x1.2::.bool true::(cs++y)).toArray 192)∧w6.heap[MB]?=some (.cells #[.int .u64 ((m.s:Nat):Int),.int .u8 ((m.c:Nat):Int)] 90):=⟨hAt.out _ _ hS6,hS6.nth 2 rfl⟩;replace hS6:=qh hS6;go_wp2_with fail;refine hK.out _ _ (fun _ _=>hS1y) ?_;clear hHeld hK K;have hHeld:=hS1y;clear hS1y
  try simp only [Act.put,zs1,zs2,zs3]
  try simp only [Act.put]
  refine tkW 6 ?_;refine tkW 7 ?_;refine tkW 8 ?_;refine tkW 9 ?_;refine tkW 10 ?_;refine wpAnyM_done (by kernel_rfl) ?_ _
  try simp only [Exit.then]
  clear hHeld hSd;have hr7:=qh (range_mid (hAt.out _ _ hS6.out) hcl.out)
  go_wp2_with (refine wpList_load_mid rfl 95 (.tmp 58) rfl q 2 (by rfl) cs _ hr7.out Tryz.underlying95 rfl (by rw [hcl.out];kernel_rfl) ?_)
  refine (hLa.out _).mono ?_;rintro z4 w7 ⟨rfl,hb⟩;have hS7:=(hS6.out.below hb).box (.cells #[.int .u64 ((sl.m.s:Nat):Int),.int .u8 ((sl.m.c:Nat):Int),.string sl.rest,.string sl.val,.bool dp,.int .i64 sl.link.1,.int .u64 sl.link.2] 92);clear hb hr7;replace hS7:=qh hS7;have hzl:=(hS7.out.nth 0 rfl);obtain ⟨s0a,s1a,s2a,s3a,s4a,s5a,s6a,s7a⟩:=box7 hzl;clear hzl
  cases hs
  ·skip
   go_upto_region 9 with fail;clear s0a s1a s2a s3a s4a s5a s6a s7a;generalize w7.alloc (.cells #[.int .u64 ((sl.m.s:Nat):Int),.int .u8 ((sl.m.c:Nat):Int),.string sl.rest,.string sl.val,.bool dp,.int .i64 sl.link.1,.int .u64 sl.link.2] 92)=w8 at *;obtain ⟨QB,hQB⟩:∃ b,b=w7.heap.size:=⟨_,rfl⟩;rw [← hQB] at hS7 ⊢;replace hQB:=qh hQB;replace hS7:=qh hS7.out;have hSd:=hS7.out.drew;refine wp_region_late [] (S:=fun W'=>W'.heap[XB]?=some (.cells #[.int .i64 ((i:Nat):Int),.slice (some ⟨pa,0,none⟩) N pc,.int .i64 up.1,.int .u64 up.2,.int .u64 ((mk.s:Nat):Int),.int .u8 ((mk.c:Nat):Int)] 120)∧W'.heap[QB]?=some (.cells #[.int .u64 ((sl.m.s:Nat):Int),.int .u8 ((sl.m.c:Nat):Int),.string sl.rest,.string sl.val,.bool dp,.int .i64 sl.link.1,.int .u64 sl.link.2] 92)) rfl (⟨hSd.nth 1 rfl,hSd.nth 0 rfl⟩) (fun hHeld=>?_)
   try dsimp only at hHeld
   generalize w8.drew=w8d at *;refine tkM 0 ?_ (hz:=by rintro w ⟨e1,e2⟩;obtain ⟨d0,d1,d2,d3,d4,d5,d6,d7⟩:=box6 e1;obtain ⟨b0,b1,b2,b3,b4,b5,b6,b7⟩:=box7 e2;exact zf);refine tkM 1 ?_ (hz:=by rintro w ⟨e1,e2⟩;obtain ⟨d0,d1,d2,d3,d4,d5,d6,d7⟩:=box6 e1;obtain ⟨b0,b1,b2,b3,b4,b5,b6,b7⟩:=box7 e2;exact zf);refine tkW 2 ?_;refine rdM 3 ?_;intro K hK;rw [if_pos (by rfl)];have hSx:=hSd.rot [_,_,_,_,_,_] _ _;refine wp_store_mid 120 (.tmp 4) (.tmp 71) rfl PB 0 #[.int .i64 ((i:Nat):Int),.slice (some ⟨pa,0,none⟩) N pc,.int .i64 up.1,.int .u64 up.2,.int .u64 ((mk.s:Nat):Int),.int .u8 ((mk.c:Nat):Int)] (by rfl) (by rfl) (hb_thereA (hSx.nth 0 rfl) (by simp)) (by kernel_rfl) (all_oneCell_toArray (cs:=[.int .i64 ((i:Nat):Int),.slice (some ⟨pa,0,none⟩) N pc,.int .i64 up.1,.int .u64 up.2,.int .u64 ((mk.s:Nat):Int),.int .u8 ((mk.c:Nat):Int)]) (by intro v hv;simp only [List.mem_cons,List.not_mem_nil,or_false] at hv;rcases hv with rfl | rfl | rfl | rfl | rfl | rfl <;> rfl)) ?_;have hS9:=hSx.setV [.int .i64 ((i:Nat):Int),.slice (some ⟨pa,0,none⟩) N pc,.int .i64 up.1,.int .u64 up.2,.int .u64 ((mk.s:Nat):Int),.int .u8 ((mk.c:Nat):Int)] (by simp);rw [show (#[.int .i64 ((i:Nat):Int),.slice (some ⟨pa,0,none⟩) N pc,.int .i64 up.1,.int .u64 up.2,.int .u64 ((mk.s:Nat):Int),.int .u8 ((mk.c:Nat):Int)]:Array Value).toList=[.int .i64 ((i:Nat):Int),.slice (some ⟨pa,0,none⟩) N pc,.int .i64 up.1,.int .u64 up.2,.int .u64 ((mk.s:Nat):Int),.int .u8 ((mk.c:Nat):Int)] from rfl]
   generalize w8d.setCells PB 0 [.int .i64 ((i:Nat):Int),.slice (some ⟨pa,0,none⟩) N pc,.int .i64 up.1,.int .u64 up.2,.int .u64 ((mk.s:Nat):Int),.int .u8 ((mk.c:Nat):Int)]=w9 at *;clear hSx hSd;have hS1:w9.heap[XB]?=some (.cells #[.int .i64 ((i:Nat):Int),.slice (some ⟨pa,0,none⟩) N pc,.int .i64 up.1,.int .u64 up.2,.int .u64 ((mk.s:Nat):Int),.int .u8 ((mk.c:Nat):Int)] 120)∧w9.heap[QB]?=some (.cells #[.int .u64 ((sl.m.s:Nat):Int),.int .u8 ((sl.m.c:Nat):Int),.string sl.rest,.string sl.val,.bool dp,.int .i64 sl.link.1,.int .u64 sl.link.2] 92):=⟨hS9.nth 2 rfl,hS9.nth 1 rfl⟩;replace hS9:=qh hS9;refine hK.out _ _ (fun _ _=>hS1) ?_;clear hHeld hK K;have hHeld:=hS1;clear hS1
   try simp only [Act.put,zs1,zs2,zs3]
   try simp only [Act.put]
   refine rdM 4 ?_;intro K hK;rw [if_pos (by rfl)];have hSx:=hS9.out.rot [_,_,_,_,_,_] _ _;refine wp_store_mid 92 (.tmp 5) (.tmp 72) rfl SB 0 #[.int .u64 ((sl.m.s:Nat):Int),.int .u8 ((sl.m.c:Nat):Int),.string sl.rest,.string sl.val,.bool dp,.int .i64 sl.link.1,.int .u64 sl.link.2] (by rfl) (by rfl) (hb_thereA (hSx.nth 0 rfl) (by simp)) (by kernel_rfl) (all_oneCell_toArray (cs:=[.int .u64 ((sl.m.s:Nat):Int),.int .u8 ((sl.m.c:Nat):Int),.string sl.rest,.string sl.val,.bool dp,.int .i64 sl.link.1,.int .u64 sl.link.2]) (by intro v hv;simp only [List.mem_cons,List.not_mem_nil,or_false] at hv;rcases hv with rfl | rfl | rfl | rfl | rfl | rfl | rfl <;> rfl)) ?_;have hS10:=hSx.setV [.int .u64 ((sl.m.s:Nat):Int),.int .u8 ((sl.m.c:Nat):Int),.string sl.rest,.string sl.val,.bool dp,.int .i64 sl.link.1,.int .u64 sl.link.2] (by simp);rw [show (#[.int .u64 ((sl.m.s:Nat):Int),.int .u8 ((sl.m.c:Nat):Int),.string sl.rest,.string sl.val,.bool dp,.int .i64 sl.link.1,.int .u64 sl.link.2]:Array Value).toList=[.int .u64 ((sl.m.s:Nat):Int),.int .u8 ((sl.m.c:Nat):Int),.string sl.rest,.string sl.val,.bool dp,.int .i64 sl.link.1,.int .u64 sl.link.2] from rfl];generalize w9.setCells SB 0 [.int .u64 ((sl.m.s:Nat):Int),.int .u8 ((sl.m.c:Nat):Int),.string sl.rest,.string sl.val,.bool dp,.int .i64 sl.link.1,.int .u64 sl.link.2]=w10 at *;clear hSx;have hS1:w10.heap[XB]?=some (.cells #[.int .i64 ((i:Nat):Int),.slice (some ⟨pa,0,none⟩) N pc,.int .i64 up.1,.int .u64 up.2,.int .u64 ((mk.s:Nat):Int),.int .u8 ((mk.c:Nat):Int)] 120)∧w10.heap[QB]?=some (.cells #[.int .u64 ((sl.m.s:Nat):Int),.int .u8 ((sl.m.c:Nat):Int),.string sl.rest,.string sl.val,.bool dp,.int .i64 sl.link.1,.int .u64 sl.link.2] 92):=⟨hS10.nth 3 rfl,hS10.nth 2 rfl⟩
   replace hS10:=qh hS10;refine hK.out _ _ (fun _ _=>hS1) ?_;clear hHeld hK K;have hHeld:=hS1;clear hS1
   try simp only [Act.put,zs1,zs2,zs3]
   try simp only [Act.put]
   refine tkW 5 ?_;refine wpAnyM_done (by kernel_rfl) ?_ _
   try simp only [Exit.then]
   clear hHeld;have hl4:=qh (run_loadVar_mid (P:=Tryz.prog) w10 PB 0 120 [.int .i64 ((i:Nat):Int),.slice (some ⟨pa,0,none⟩) N pc,.int .i64 up.1,.int .u64 up.2,.int .u64 ((mk.s:Nat):Int),.int .u8 ((mk.c:Nat):Int)] _ (range_of_heap (hS10.out.nth 1 rfl)) Tryz.underlying120 rfl (by kernel_rfl));have hl5:=qh (run_loadVar_mid (P:=Tryz.prog) w10 SB 0 92 [.int .u64 ((sl.m.s:Nat):Int),.int .u8 ((sl.m.c:Nat):Int),.string sl.rest,.string sl.val,.bool dp,.int .i64 sl.link.1,.int .u64 sl.link.2] _ (range_of_heap (hS10.out.nth 0 rfl)) Tryz.underlying92 rfl (by kernel_rfl));go_wp2_with fail;refine bodyPost_ret (v:=.tuple #[.agg #[.int .i64 ((i:Nat):Int),.slice (some ⟨pa,0,none⟩) N pc,.int .i64 up.1,.int .u64 up.2,.int .u64 ((mk.s:Nat):Int),.int .u8 ((mk.c:Nat):Int)],.agg #[.int .u64 ((sl.m.s:Nat):Int),.int .u8 ((sl.m.c:Nat):Int),.string sl.rest,.string sl.val,.bool dp,.int .i64 sl.link.1,.int .u64 sl.link.2],.bool false]) (by simp [results,Tryz.results61,asAddr,hl4.out,hl5.out]) rfl ⟨i,l,pa,pc,up,mk,sl,false,po,?_,hon.out,hup.out,⟨hS10.out.nth 4 rfl,hpw.out,?_⟩,hS10.out.am,hS10.out.ev,?_,?_⟩
   ·rw [← hN.out]
    unfold slc;rw [← hdp.out]
   ·rw [← hN.out,← hm.out,← hP.out];exact hrwb.out
   ·intro h9;first | exact ⟨by rw [← hm.out];exact (hgt.out rfl).1,hdp.out.symm⟩ | exact ⟨by rw [← hm.out];exact (hgt.out trivial).1,hdp.out.symm⟩ | cases h9
   ·intro h9;first | (rw [← hm.out];first | exact hgn.out rfl | exact hgn.out trivial) | cases h9
  ·cases dp
   ·skip
    go_upto_region 9 with fail;clear s0a s1a s2a s3a s4a s5a s6a s7a;generalize w7.alloc (.cells #[.int .u64 ((sl.m.s:Nat):Int),.int .u8 ((sl.m.c:Nat):Int),.string sl.rest,.string sl.val,.bool false,.int .i64 sl.link.1,.int .u64 sl.link.2] 92)=w8 at *;obtain ⟨QB,hQB⟩:∃ b,b=w7.heap.size:=⟨_,rfl⟩;rw [← hQB] at hS7 ⊢;replace hQB:=qh hQB;replace hS7:=qh hS7.out;have hSd:=hS7.out.drew;refine wp_region_late [] (S:=fun W'=>W'.heap[XB]?=some (.cells #[.int .i64 ((i:Nat):Int),.slice (some ⟨pa,0,none⟩) N pc,.int .i64 up.1,.int .u64 up.2,.int .u64 ((mk.s:Nat):Int),.int .u8 ((mk.c:Nat):Int)] 120)∧W'.heap[QB]?=some (.cells #[.int .u64 ((sl.m.s:Nat):Int),.int .u8 ((sl.m.c:Nat):Int),.string sl.rest,.string sl.val,.bool false,.int .i64 sl.link.1,.int .u64 sl.link.2] 92)) rfl (⟨hSd.nth 1 rfl,hSd.nth 0 rfl⟩) (fun hHeld=>?_)
    try dsimp only at hHeld
    generalize w8.drew=w8d at *;refine tkM 0 ?_ (hz:=by rintro w ⟨e1,e2⟩;obtain ⟨d0,d1,d2,d3,d4,d5,d6,d7⟩:=box6 e1;obtain ⟨b0,b1,b2,b3,b4,b5,b6,b7⟩:=box7 e2;exact zf);refine tkM 1 ?_ (hz:=by rintro w ⟨e1,e2⟩;obtain ⟨d0,d1,d2,d3,d4,d5,d6,d7⟩:=box6 e1;obtain ⟨b0,b1,b2,b3,b4,b5,b6,b7⟩:=box7 e2;exact zf);refine tkW 2 ?_;refine rdM 3 ?_;intro K hK;rw [if_pos (by rfl)];have hSx:=hSd.rot [_,_,_,_,_,_] _ _;refine wp_store_mid 120 (.tmp 4) (.tmp 71) rfl PB 0 #[.int .i64 ((i:Nat):Int),.slice (some ⟨pa,0,none⟩) N pc,.int .i64 up.1,.int .u64 up.2,.int .u64 ((mk.s:Nat):Int),.int .u8 ((mk.c:Nat):Int)] (by rfl) (by rfl) (hb_thereA (hSx.nth 0 rfl) (by simp)) (by kernel_rfl) (all_oneCell_toArray (cs:=[.int .i64 ((i:Nat):Int),.slice (some ⟨pa,0,none⟩) N pc,.int .i64 up.1,.int .u64 up.2,.int .u64 ((mk.s:Nat):Int),.int .u8 ((mk.c:Nat):Int)]) (by intro v hv;simp only [List.mem_cons,List.not_mem_nil,or_false] at hv;rcases hv with rfl | rfl | rfl | rfl | rfl | rfl <;> rfl)) ?_;have hS9:=hSx.setV [.int .i64 ((i:Nat):Int),.slice (some ⟨pa,0,none⟩) N pc,.int .i64 up.1,.int .u64 up.2,.int .u64 ((mk.s:Nat):Int),.int .u8 ((mk.c:Nat):Int)] (by simp);rw [show (#[.int .i64 ((i:Nat):Int),.slice (some ⟨pa,0,none⟩) N pc,.int .i64 up.1,.int .u64 up.2,.int .u64 ((mk.s:Nat):Int),.int .u8 ((mk.c:Nat):Int)]:Array Value).toList=[.int .i64 ((i:Nat):Int),.slice (some ⟨pa,0,none⟩) N pc,.int .i64 up.1,.int .u64 up.2,.int .u64 ((mk.s:Nat):Int),.int .u8 ((mk.c:Nat):Int)] from rfl]
    generalize w8d.setCells PB 0 [.int .i64 ((i:Nat):Int),.slice (some ⟨pa,0,none⟩) N pc,.int .i64 up.1,.int .u64 up.2,.int .u64 ((mk.s:Nat):Int),.int .u8 ((mk.c:Nat):Int)]=w9 at *;clear hSx hSd;have hS1:w9.heap[XB]?=some (.cells #[.int .i64 ((i:Nat):Int),.slice (some ⟨pa,0,none⟩) N pc,.int .i64 up.1,.int .u64 up.2,.int .u64 ((mk.s:Nat):Int),.int .u8 ((mk.c:Nat):Int)] 120)∧w9.heap[QB]?=some (.cells #[.int .u64 ((sl.m.s:Nat):Int),.int .u8 ((sl.m.c:Nat):Int),.string sl.rest,.string sl.val,.bool false,.int .i64 sl.link.1,.int .u64 sl.link.2] 92):=⟨hS9.nth 2 rfl,hS9.nth 1 rfl⟩;replace hS9:=qh hS9;refine hK.out _ _ (fun _ _=>hS1) ?_;clear hHeld hK K;have hHeld:=hS1;clear hS1
    try simp only [Act.put,zs1,zs2,zs3]
    try simp only [Act.put]
    refine rdM 4 ?_;intro K hK;rw [if_pos (by rfl)];have hSx:=hS9.out.rot [_,_,_,_,_,_] _ _;refine wp_store_mid 92 (.tmp 5) (.tmp 72) rfl SB 0 #[.int .u64 ((sl.m.s:Nat):Int),.int .u8 ((sl.m.c:Nat):Int),.string sl.rest,.string sl.val,.bool false,.int .i64 sl.link.1,.int .u64 sl.link.2] (by rfl) (by rfl) (hb_thereA (hSx.nth 0 rfl) (by simp)) (by kernel_rfl) (all_oneCell_toArray (cs:=[.int .u64 ((sl.m.s:Nat):Int),.int .u8 ((sl.m.c:Nat):Int),.string sl.rest,.string sl.val,.bool false,.int .i64 sl.link.1,.int .u64 sl.link.2]) (by intro v hv;simp only [List.mem_cons,List.not_mem_nil,or_false] at hv;rcases hv with rfl | rfl | rfl | rfl | rfl | rfl | rfl <;> rfl)) ?_;have hS10:=hSx.setV [.int .u64 ((sl.m.s:Nat):Int),.int .u8 ((sl.m.c:Nat):Int),.string sl.rest,.string sl.val,.bool false,.int .i64 sl.link.1,.int .u64 sl.link.2] (by simp);rw [show (#[.int .u64 ((sl.m.s:Nat):Int),.int .u8 ((sl.m.c:Nat):Int),.string sl.rest,.string sl.val,.bool false,.int .i64 sl.link.1,.int .u64 sl.link.2]:Array Value).toList=[.int .u64 ((sl.m.s:Nat):Int),.int .u8 ((sl.m.c:Nat):Int),.string sl.rest,.string sl.val,.bool false,.int .i64 sl.link.1,.int .u64 sl.link.2] from rfl];generalize w9.setCells SB 0 [.int .u64 ((sl.m.s:Nat):Int),.int .u8 ((sl.m.c:Nat):Int),.string sl.rest,.string sl.val,.bool false,.int .i64 sl.link.1,.int .u64 sl.link.2]=w10 at *;clear hSx;have hS1:w10.heap[XB]?=some (.cells #[.int .i64 ((i:Nat):Int),.slice (some ⟨pa,0,none⟩) N pc,.int .i64 up.1,.int .u64 up.2,.int .u64 ((mk.s:Nat):Int),.int .u8 ((mk.c:Nat):Int)] 120)∧w10.heap[QB]?=some (.cells #[.int .u64 ((sl.m.s:Nat):Int),.int .u8 ((sl.m.c:Nat):Int),.string sl.rest,.string sl.val,.bool false,.int .i64 sl.link.1,.int .u64 sl.link.2] 92):=⟨hS10.nth 3 rfl,hS10.nth 2 rfl⟩
    replace hS10:=qh hS10;refine hK.out _ _ (fun _ _=>hS1) ?_;clear hHeld hK K;have hHeld:=hS1;clear hS1
    try simp only [Act.put,zs1,zs2,zs3]
    try simp only [Act.put]
    refine tkW 5 ?_;refine wpAnyM_done (by kernel_rfl) ?_ _
    try simp only [Exit.then]
    clear hHeld;have hl4:=qh (run_loadVar_mid (P:=Tryz.prog) w10 PB 0 120 [.int .i64 ((i:Nat):Int),.slice (some ⟨pa,0,none⟩) N pc,.int .i64 up.1,.int .u64 up.2,.int .u64 ((mk.s:Nat):Int),.int .u8 ((mk.c:Nat):Int)] _ (range_of_heap (hS10.out.nth 1 rfl)) Tryz.underlying120 rfl (by kernel_rfl));have hl5:=qh (run_loadVar_mid (P:=Tryz.prog) w10 SB 0 92 [.int .u64 ((sl.m.s:Nat):Int),.int .u8 ((sl.m.c:Nat):Int),.string sl.rest,.string sl.val,.bool false,.int .i64 sl.link.1,.int .u64 sl.link.2] _ (range_of_heap (hS10.out.nth 0 rfl)) Tryz.underlying92 rfl (by kernel_rfl));go_wp2_with fail;refine bodyPost_ret (v:=.tuple #[.agg #[.int .i64 ((i:Nat):Int),.slice (some ⟨pa,0,none⟩) N pc,.int .i64 up.1,.int .u64 up.2,.int .u64 ((mk.s:Nat):Int),.int .u8 ((mk.c:Nat):Int)],.agg #[.int .u64 ((sl.m.s:Nat):Int),.int .u8 ((sl.m.c:Nat):Int),.string sl.rest,.string sl.val,.bool false,.int .i64 sl.link.1,.int .u64 sl.link.2],.bool true]) (by simp [results,Tryz.results61,asAddr,hl4.out,hl5.out]) rfl ⟨i,l,pa,pc,up,mk,sl,true,po,?_,hon.out,hup.out,⟨hS10.out.nth 4 rfl,hpw.out,?_⟩,hS10.out.am,hS10.out.ev,?_,?_⟩
    ·rw [← hN.out]
     unfold slc;rw [← hdp.out]
    ·rw [← hN.out,← hm.out,← hP.out];exact hrwb.out
    ·intro h9;first | exact ⟨by rw [← hm.out];exact (hgt.out rfl).1,hdp.out.symm⟩ | exact ⟨by rw [← hm.out];exact (hgt.out trivial).1,hdp.out.symm⟩ | cases h9
    ·intro h9;first | (rw [← hm.out];first | exact hgn.out rfl | exact hgn.out trivial) | cases h9
   ·skip
    have hd:sl.deep=true:=hdp.out.symm;obtain ⟨hg1,hg2⟩:=hgt.out rfl;obtain ⟨l9,hon9,hr9,hp9⟩:=On.stepP hM.out hon.out (by rw [← hm.out];exact hg1) hd;have hup9:UpAt Y l9 (i+1) x1 m:=.inr ⟨l,sl,hon.out.mem,by rw [hg2];exact hg1,hd,hp9,hg2.symm,hupx.out sl hg2⟩;replace hd:=qh hd;replace hr9:=qh hr9;replace hon9:=qh hon9;replace hup9:=qh hup9;replace hp9:=qh hp9;replace hg1:=qh hg1;replace hg2:=qh hg2;go_upto_region 10 with fail;clear s0a s1a s2a s3a s4a s5a s6a s7a;generalize w7.alloc (.cells #[.int .u64 ((sl.m.s:Nat):Int),.int .u8 ((sl.m.c:Nat):Int),.string sl.rest,.string sl.val,.bool true,.int .i64 sl.link.1,.int .u64 sl.link.2] 92)=w8 at *;obtain ⟨QB,hQB⟩:∃ b,b=w7.heap.size:=⟨_,rfl⟩;rw [← hQB] at hS7 ⊢;replace hQB:=qh hQB;replace hS7:=qh hS7.out;have hSd:=hS7.out.drew;have hw1:IntKind.i64.wrap ((N:Int) - 1)=(p:Int):=by have:=hp.out;rw [show ((N:Int) - 1)=(p:Int) by omega];exact IntWalk.i64_in _ (by omega)
    have hp1:p < N:=by have:=hp.out;omega
    have hp2:(p:Int) < (N:Int):=by omega
    have hwi:IntKind.i64.wrap (((i:Nat):Int)+1)=((i+1:Nat):Int):=by rw [show ((i:Nat):Int)+1=((i+1:Nat):Int) by omega];exact IntWalk.i64_in _ (by omega)
    refine wp_region_late [13] (S:=fun W'=>W'.heap[XB]?=some (.cells #[.int .i64 ((i:Nat):Int),.slice (some ⟨pa,0,none⟩) N pc,.int .i64 up.1,.int .u64 up.2,.int .u64 ((mk.s:Nat):Int),.int .u8 ((mk.c:Nat):Int)] 120)∧W'.heap[pa]?=some po∧W'.heap[MB]?=some (.cells #[.int .u64 ((m.s:Nat):Int),.int .u8 ((m.c:Nat):Int)] 90)) rfl (⟨hSd.nth 1 rfl,hSd.nth 2 rfl,hSd.nth 3 rfl⟩) (fun hHeld=>?_)
    try dsimp only at hHeld
    generalize w8.drew=w8d at *;refine tkW 0 ?_;refine tkM 1 ?_ (hz:=by rintro w ⟨e1,e2,e3⟩;obtain ⟨d0,d1,d2,d3,d4,d5,d6,d7⟩:=box6 e1;obtain ⟨k0,k1⟩:=hpk.out _ e2;have kl:=heap_lt e2;obtain ⟨b0,b1,bq,bf0,bf1⟩:=box2 e3;exact zf);refine tkW 2 ?_;refine tkW 3 ?_;refine tkM 4 ?_ (hz:=by rintro w ⟨e1,e2,e3⟩;obtain ⟨d0,d1,d2,d3,d4,d5,d6,d7⟩:=box6 e1;obtain ⟨k0,k1⟩:=hpk.out _ e2;have kl:=heap_lt e2;obtain ⟨b0,b1,bq,bf0,bf1⟩:=box2 e3;exact zf);refine tkW 5 ?_;refine tkM 6 ?_ (hz:=by rintro w ⟨e1,e2,e3⟩;obtain ⟨d0,d1,d2,d3,d4,d5,d6,d7⟩:=box6 e1;obtain ⟨k0,k1⟩:=hpk.out _ e2;have kl:=heap_lt e2;obtain ⟨b0,b1,bq,bf0,bf1⟩:=box2 e3;exact zf);refine tkW 7 ?_;refine tkW 8 ?_;refine tkW 9 ?_;refine tkM 10 ?_ (hz:=by rintro w ⟨e1,e2,e3⟩;obtain ⟨d0,d1,d2,d3,d4,d5,d6,d7⟩:=box6 e1;obtain ⟨k0,k1⟩:=hpk.out _ e2;have kl:=heap_lt e2;obtain ⟨b0,b1,bq,bf0,bf1⟩:=box2 e3;exact zf);refine tkM 11 ?_ (hz:=by rintro w ⟨e1,e2,e3⟩;obtain ⟨d0,d1,d2,d3,d4,d5,d6,d7⟩:=box6 e1;obtain ⟨k0,k1⟩:=hpk.out _ e2;have kl:=heap_lt e2;obtain ⟨b0,b1,bq,bf0,bf1⟩:=box2 e3;exact zf);refine tkW 12 ?_;refine rdM 13 ?_;intro K hK;rw [if_pos (by rfl)];have hSx:=hSd.rot [_] _ _;refine wp_store_mid 120 (.tmp 7) (.tmp 86) rfl XB 0 #[.int .i64 ((i+1:Nat):Int),.slice none 0 0,.int .i64 x1.1,.int .u64 x1.2,.int .u64 ((m.s:Nat):Int),.int .u8 ((m.c:Nat):Int)] (by rfl) (by rfl) (hb_thereA (hSx.nth 0 rfl) (by simp)) (by kernel_rfl) (all_oneCell_toArray (cs:=[.int .i64 ((i+1:Nat):Int),.slice none 0 0,.int .i64 x1.1,.int .u64 x1.2,.int .u64 ((m.s:Nat):Int),.int .u8 ((m.c:Nat):Int)]) (by intro v hv;simp only [List.mem_cons,List.not_mem_nil,or_false] at hv;rcases hv with rfl | rfl | rfl | rfl | rfl | rfl <;> rfl)) ?_
    have hS9:=hSx.setV [.int .i64 ((i+1:Nat):Int),.slice none 0 0,.int .i64 x1.1,.int .u64 x1.2,.int .u64 ((m.s:Nat):Int),.int .u8 ((m.c:Nat):Int)] (by simp);rw [show (#[.int .i64 ((i+1:Nat):Int),.slice none 0 0,.int .i64 x1.1,.int .u64 x1.2,.int .u64 ((m.s:Nat):Int),.int .u8 ((m.c:Nat):Int)]:Array Value).toList=[.int .i64 ((i+1:Nat):Int),.slice none 0 0,.int .i64 x1.1,.int .u64 x1.2,.int .u64 ((m.s:Nat):Int),.int .u8 ((m.c:Nat):Int)] from rfl];generalize w8d.setCells XB 0 [.int .i64 ((i+1:Nat):Int),.slice none 0 0,.int .i64 x1.1,.int .u64 x1.2,.int .u64 ((m.s:Nat):Int),.int .u8 ((m.c:Nat):Int)]=w9 at *;clear hSx hSd;replace hS9:=qh hS9;refine hK.out _ _ (fun h=>by cases h) ?_;clear hK K
    try simp only [Act.put,zs1,zs2,zs3]
    try simp only [Act.put]
    refine wpAnyM_done (by kernel_rfl) ?_ _
    try simp only [Exit.then]
    clear hw1 hp1 hp2;obtain ⟨s0a,s1a,s2a,s3a,s4a,s5a,s6a,s7a⟩:=box7 (hS9.out.nth 1 rfl);obtain ⟨g0,g1,gq,gf0,gf1⟩:=box2 (hS9.out.nth 4 rfl);have hS10:=(hS9.out.rot [_,_,_,_] _ _).set2 (.int .i64 sl.link.1) (.int .u64 sl.link.2);have hS11:=hS10.sub (L':=[(HB,.cells #[.int .i64 sl.link.1,.int .u64 sl.link.2] 71),(XB,.cells #[.int .i64 ((i+1:Nat):Int),.slice none 0 0,.int .i64 x1.1,.int .u64 x1.2,.int .u64 ((m.s:Nat):Int),.int .u8 ((m.c:Nat):Int)] 120),(SB,.cells #[.int .u64 0,.int .u8 0,.string ⟨#[]⟩,.string ⟨#[]⟩,.bool false,.int .i64 0,.int .u64 0] 92),(PB,.cells #[.int .i64 0,.slice none 0 0,.int .i64 0,.int .u64 0,.int .u64 0,.int .u8 0] 120)]) (List.Sublist.cons₂ _ (List.Sublist.cons₂ _ (List.Sublist.cons _ (List.Sublist.cons _ (List.Sublist.cons _ (List.Sublist.refl _))))));rw [← hr9.out] at hS11;clear hS10;replace hS11:=qh hS11;go_wp2_with fail;go_roundg (key.size+1 - (i+1))
    case rel=>exact ⟨i+1,l9,x1,m,rfl,hon9.out,hup9.out,by have:=hS11.out;rw [hr9.out] at this ⊢;exact this⟩
    case measure=>omega
end Go.Proofs.YtbdealmkmpnpoaaGreat.M
