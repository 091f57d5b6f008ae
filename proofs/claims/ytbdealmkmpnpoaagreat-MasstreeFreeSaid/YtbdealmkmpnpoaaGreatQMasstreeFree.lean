import Derived.Laws.MakeOwn
import Derived.Lib.SliceRun
import Derived.Deep.RegionLaw
import Derived.Shelf.SlSortCmp.NoneTotal
import Derived.Shelf.SlGeneric
import Derived.Shelf.SlicesG.Cmp
import Derived.Ground.SlsfProg
import Derived.Ground.SlgcProg
import Derived.Test.YtbdealmkmpnpoaaGreatProg
import Derived.Test.YtbdealmkmpnpoaaGreatChecked
import Derived.Deep.LoopGhost
import Derived.Deep.DeepCutAuto
import Derived.Test.YtbdealmkmpnpoaaGreatRows
import Derived.WalkKit
import Derived.ProofKit
import Derived.OpenShut
import Derived.ShutString
import Derived.ChangeOld
import Derived.Below
import Derived.Test.YtbdealmkmpnpoaaGreatQ01
import Derived.Test.YtbdealmkmpnpoaaGreatQ02
import Derived.Test.YtbdealmkmpnpoaaGreatQ03
import Derived.Test.YtbdealmkmpnpoaaGreatQ04
import Derived.Test.YtbdealmkmpnpoaaGreatQ05
import Derived.Test.YtbdealmkmpnpoaaGreatQ06
import Derived.Test.YtbdealmkmpnpoaaGreatQ07
import Derived.Test.YtbdealmkmpnpoaaGreatQ08
import Derived.Test.YtbdealmkmpnpoaaGreatQ09
import Derived.Test.YtbdealmkmpnpoaaGreatQ10
import Derived.Test.YtbdealmkmpnpoaaGreatQ11
import Derived.Test.YtbdealmkmpnpoaaGreatQ12
import Derived.Test.YtbdealmkmpnpoaaGreatQ13
import Derived.Test.YtbdealmkmpnpoaaGreatQ14
set_option linter.all false
namespace Go.Proofs.YtbdealmkmpnpoaaGreat.M
open Go.RowKit
def HandsM (L:List AEnt) (w:World) (z:Ending) (w':World):Prop :=
 ∃ a c H,z=.returned (.slice a H.length c)∧Row w.heap.size 71 2 hcel w' (.slice a H.length c) H∧H.Perm (L.map fun x=>((x.slot:Int),x.gen))∧Below w.heap.size w w'
def HandsOK:Prop:=∀ (A:AR) (p:Option Addr) (W:World),AMnode.AG W [] p A→Born AEnt.born A.L A.c→A.L.length≤100000→Calls Tryz.prog 84 #[.pointer (some ⟨A.a,0,none⟩)] W (HandsM A.L W)
structure TEr (w w':World) (T T':TS):Prop where
 ru:RU [1,2,3,4,10+3*T.i,12+3*T.i] w w' T.ρ T'.ρ
 P:T'.P=T.P
 i:T'.i=T.i
 t:T'.t=T.t
 a:T'.d.A.a=T.d.A.a
 dl:T'.D.length=T.D.length
 dj:∀ j,j≠T.i→T'.D[j]?=T.D[j]?
 fl:T'.free.length=T.free.length
def fdel (F:NF) (h:Hd):NF:=F.filter fun x=>x.1≠h
theorem mem_fdel {F:NF} {h:Hd} {z:Hd×ND}:z∈fdel F h↔z.1≠h∧z∈F:=by
 unfold fdel
 rw [List.mem_filter]
 simp [and_comm]
theorem fdel_len {F:NF} (hn:(F.map (·.1)).Nodup) {x:Hd×ND} (hx:x∈F):(fdel F x.1).length+1=F.length:=by
 induction F with
 | nil=>cases hx
 | cons a L ih =>
  rw [List.map_cons,List.nodup_cons] at hn;unfold fdel;rcases List.mem_cons.1 hx with rfl | hm
  ·rw [List.filter_cons_of_neg (by simp), filter_all (fun y hy => by
     have:y.1≠x.1:=fun hh=>hn.1 (by rw [← hh];exact List.mem_map_of_mem hy)
     simpa using this)]
   rfl
  ·have hne:a.1≠x.1:=fun hh=>hn.1 (by rw [hh];exact List.mem_map_of_mem hm)
   rw [List.filter_cons_of_pos (by simpa using hne)];simp only [List.length_cons];have:=ih hn.2 hm;unfold fdel at this;rw [this]
theorem slots_len {L:List AEnt} (hn:(L.map AEnt.slot).Nodup) {e:AEnt} (he:e∈L):(L.filter fun y=>y.slot≠e.slot).length+1=L.length:=by
 induction L with
 | nil=>cases he
 | cons a L ih =>
  rw [List.map_cons,List.nodup_cons] at hn;rcases List.mem_cons.1 he with rfl | hm
  ·rw [List.filter_cons_of_neg (by simp), filter_all (fun y hy => by
     have:y.slot≠e.slot:=fun hh=>hn.1 (by rw [← hh];exact List.mem_map_of_mem hy)
     simpa using this)]
   rfl
  ·have hne:a.slot≠e.slot:=fun hh=>hn.1 (by rw [hh];exact List.mem_map_of_mem hm)
   rw [List.filter_cons_of_pos (by simpa using hne)];simp only [List.length_cons];rw [ih hn.2 hm]
theorem count_set_true (free:List Bool) (i:Nat) (hi:free[i]?=some false):(free.set i true).count true=free.count true+1:=by
 obtain ⟨hlt,he⟩:=List.getElem?_eq_some_iff.1 hi
 have:=List.count_set (a:=true) (b:=true) (l:=free) hlt
 rw [this,he]
 simp
section
variable {w0 w w' w1 w2:World} {T T1 T2:TS} {x:Hd×ND}
theorem TEr.refl (h:AM w0 w T):TEr w w T T:=⟨(RU.refl (rs:=[]) h.bw.ro).mono (by simp),rfl,rfl,rfl,rfl,rfl,fun _ _=>rfl,rfl⟩
theorem TEr.trans (h:TEr w w1 T T1) (k:TEr w1 w2 T1 T2):TEr w w2 T T2:=by
 have hr:=k.ru
 rw [h.i] at hr
 exact ⟨h.ru.trans hr,k.P.trans h.P,k.i.trans h.i,k.t.trans h.t,k.a.trans h.a,k.dl.trans h.dl,fun j hj=>(k.dj j (by rw [h.i];exact hj)).trans (h.dj j hj),k.fl.trans h.fl⟩
theorem TEr.below (h:AM w0 w T) (hb:Below w.heap.size w w'):TEr w w' T T:=⟨(RU.below (rs:=[]) h.bw.ro hb).mono (by simp),rfl,rfl,rfl,rfl,rfl,fun _ _=>rfl,rfl⟩
theorem TEr.cell1 (h:TEr w w' T T1) (ha:AM w0 w' T1):w'.cell? ⟨T.t,1,none⟩=some (.pointer (some ⟨T.d.A.a,0,none⟩)):=by
 have:=ha.cells.2.1
 rwa [h.t,h.a] at this
theorem AM.release (h : AM w0 w T) (hx : x ∈ T.F) :
    Calls Tryz.prog 85 #[.pointer (some ⟨T.d.A.a,0,none⟩),hV x.1] w fun y w'=>y=.returned (.bool true)∧∃ T',AM w0 w' T'∧TEr w w' T T'∧T'.F=fdel T.F x.1∧T'.free.count true=T.free.count true+1:=by
 obtain ⟨e,e1,e2,e3,e4⟩:=h.ent x hx
 obtain ⟨n1,n3,n4,n5,n6,n7⟩:=h.bw.ars.neq h.hd
 have hA:=h.bw.ars.gR h.hd
 rw [h.ta,h.tc] at hA
 have hp:=h.bw.ars.pool.1
 have hfr:=((h.bw.ars.ar T.i T.d h.hd).th e e1).2
 have hlt:T.i < T.D.length:=(List.getElem?_eq_some_iff.1 h.hd).1
 refine (AMnode.gRelease_some T.d.A T.P.1 T.P.2.1 T.P.2.2 [T.P.1,T.P.2.1,T.P.2.2,T.d.A.m] T.gens T.free x.1.1 x.1.2 e w hA hp e1 e2.symm e3 hfr n1 n3 n4 n5 n6 n7 (by simp)).mono ?_
 rintro y w' ⟨hy,hu,hp',hA'⟩
 refine ⟨hy,?_⟩
 obtain ⟨a1,a2⟩:=h.bw.ars.release h.bw.ro h.hd e1 (fun j d' y hj hd' hy=>h.sep j d' y e hj hd' hy e1) hu hp' (by rw [h.ta,h.tc];exact hA')
 have hll:=slots_len h.slots e1
 have hfl:=fdel_len h.ndf hx
 refine ⟨{ T with gens:=T.gens.set e.slot (IntKind.u64.wrap (T.gens.getD e.slot 0+1)),free:=T.free.set e.slot true,D:=T.D.set T.i { T.d with A:={ T.d.A with L:=T.d.A.L.filter fun y=>y.slot≠e.slot } },d:={ T.d with A:={ T.d.A with L:=T.d.A.L.filter fun y=>y.slot≠e.slot } },F:=fdel T.F x.1 },⟨⟨h.bw.ro.step a2 (by simp;omega),a1⟩,by simp [hlt],h.ta,h.tc,h.rol,a2.heap h.blk (by rw [h.rol];simp;omega),?_,?_,?_,?_,?_,?_⟩,⟨a2.mono (by simp),rfl,rfl,rfl,rfl,by simp,fun j hj=>?_,by simp⟩,rfl,count_set_true _ _ hfr⟩
 ·intro z hz
  obtain ⟨z1,z2⟩:=mem_fdel.1 hz;obtain ⟨y,y1,y2,y3,y4⟩:=h.ent z z2;refine ⟨y,List.mem_filter.2 ⟨y1,?_⟩,y2,y3,y4⟩
  have:y.slot≠e.slot:=fun hh=>by
   have:=slot_uniq h.slots y1 e1 hh;subst this;exact z1 (Prod.ext (by rw [← y2,e2]) (by rw [← y3,e3]))
  simpa using this
 ·intro z hz
  exact (h.ok z (mem_fdel.1 hz).2).ru a2 (by simp;omega)
 ·exact h.ndf.sublist (List.Sublist.map _ List.filter_sublist)
 ·show (T.d.A.L.filter fun y=>y.slot≠e.slot).length=(fdel T.F x.1).length
  have:=h.len;omega
 ·intro j d' y y' hj hd' hy hy'
  have hd'':(T.D.set T.i { T.d with A:={ T.d.A with L:=T.d.A.L.filter fun y=>y.slot≠e.slot } })[j]?=some d':=hd';rcases get_set hd'' with ⟨hh,_⟩ | ⟨_,hd'⟩
  ·exact absurd hh.symm hj
  ·exact h.sep j d' y y' hj hd' hy (List.mem_filter.1 hy').1
 ·have:=sum_set (d':={ T.d with A:={ T.d.A with L:=T.d.A.L.filter fun y=>y.slot≠e.slot } }) h.hd
  have hc:=h.cnt;have h2:=count_set_true T.free e.slot hfr;simp only [List.length_set]
  show (T.free.set e.slot true).count true+((T.D.set T.i _).map fun d=>d.A.L.length).sum=T.free.length
  generalize ((T.D.set T.i _).map fun d=>d.A.L.length).sum=z at this ⊢;simp only at this;omega
 ·exact List.getElem?_set_ne (fun hh=>hj hh.symm)
structure MGn (w0 w:World) (T:TS):Prop where
 bw:BW w0 w T.ρ T.P T.gens T.free T.D
 hd:T.D[T.i]?=some T.d
 ta:T.d.ta=162
 tc:T.d.tc=192
 rol:T.ρ T.t=4
 blk:∃ r1 r2,w.heap[T.t]?=some (.cells #[.pointer (some ⟨T.P.1,0,none⟩),.pointer (some ⟨T.d.A.a,0,none⟩),.int .i64 r1,.int .u64 r2,.int .i64 0,.int .i64 0,.bool true] 73)
 emp:T.d.A.L=[]
 cnt:T.free.count true+(T.D.map fun d=>d.A.L.length).sum=T.free.length
def DropEnd (w0 w:World) (T:TS) (e:Ending) (w':World):Prop :=
 e=.returned (.tuple #[])∧∃ T',MGn w0 w' T'∧TEr w w' T T'∧T'.free.count true=T.free.count true+T.F.length
theorem hand_node (h:AM w0 w T) {g:Hd} (hg:g∈T.d.A.L.map fun x=>((x.slot:Int),x.gen)):∃ x,x∈T.F∧x.1=g:=by
 obtain ⟨e,he,rfl⟩:=List.mem_map.1 hg
 obtain ⟨x,hx,h2,h3⟩:=h.node he
 exact ⟨x,hx,Prod.ext h2.symm h3.symm⟩
theorem hands_nodup (h:AM w0 w T):(T.d.A.L.map fun x=>((x.slot:Int),x.gen)).Nodup:=by
 have h1:=h.slots
 unfold List.Nodup at h1 ⊢
 rw [List.pairwise_map] at h1 ⊢
 exact h1.imp fun hab e=>hab (by injection e with e _;omega)
set_option maxRecDepth 100000 in
set_option maxHeartbeats 4000000 in
theorem AM.drop (hH:HandsOK) (h:AM w0 w T) (hfb:T.F.length≤100000):Calls Tryz.prog 41 #[.pointer (some ⟨T.t,0,none⟩)] w (DropEnd w0 w T):=by
 have hfl:=h.len
 have hHa:=hH T.d.A (some ⟨T.P.1,0,none⟩) w (h.bw.ag h.hd h.ta h.tc) (h.bw.ars.ar T.i T.d h.hd).bn (by omega)
 obtain ⟨_,c1,_,_,c4,c5,c6,hq⟩:=h.cells
 have hO:=none_ok c1
 have hnd:=hands_nodup h
 have hno:=fun g (hg:g∈T.d.A.L.map fun x=>((x.slot:Int),x.gen))=>hand_node h hg
 have hlh:(T.d.A.L.map fun x=>((x.slot:Int),x.gen)).length=T.F.length:=by rw [List.length_map];exact hfl
 obtain ⟨H0,hH0⟩:∃ H,H=T.d.A.L.map fun x=>((x.slot:Int),x.gen):=⟨_,rfl⟩
 unfold HandsM at hHa
 rw [← hH0] at hHa hnd hno hlh
 replace hH0:=qh hH0
 replace hnd:=qh hnd
 replace hno:=qh hno
 replace hfl:=qh hfl
 replace h:=qh h
 clear hH
 go_enter Tryz.func41,Tryz.ntmps41
 go_wp2_with fail
 refine hO.mono ?_
 clear hO
 rintro e w1 ⟨rfl,rfl⟩
 go_wp2_with fail
 refine hHa.mono ?_
 clear hHa
 rintro e w1 ⟨pa,pc,H,rfl,hrow,hperm,hb1⟩
 obtain ⟨n,hn⟩:∃ n,n=H.length:=⟨_,rfl⟩
 have hlh2:Hid (n=T.F.length):=qh (by rw [hn,hperm.length_eq];exact hlh)
 have hnd2:=qh (hperm.nodup_iff.2 hnd.out)
 have hno2:=qh fun g (hg:g∈H)=>hno.out g (hperm.mem_iff.1 hg)
 rw [← hn]
 have hcel:Hid (∀ W T',TEr w1 W T T'→∀ k x,H[k]?=some x→∃ pb,pa=some ⟨pb,0,none⟩∧pb < W.heap.size∧n≤pc∧pc≤maxLen∧W.cell? ⟨pb,k*2,none⟩=some (.int .i64 x.1)∧W.cell? ⟨pb,k*2+1,none⟩=some (.int .u64 x.2)):=qh fun W T' hev k x hx=>by
  obtain ⟨b,cap,ev,_,h2,h3,h4,h5,_,h6⟩:=hrow.at hx;injection ev with ev _ ec;subst ec;have hz:T.ρ b=0:=h.out.bw.ro.far b h2;have hkeep:=hev.ru.block b h3 (by rw [hz];simp;omega);exact ⟨b,ev,Nat.lt_of_lt_of_le h3 hev.ru.size,by rw [hn];exact h4,h5,by rw [World.cell?_of_block hkeep];simpa using h6 0 _ rfl,by rw [World.cell?_of_block hkeep];exact h6 1 _ rfl⟩
 replace hn:=qh hn
 have hA1:=qh (h.out.below hb1)
 replace hb1:=qh hb1
 have hn4:n≤100000:=by have:=hlh2.out;omega
 clear hrow hperm hlh hnd hno c1 c4 c5 c6 hq
 go_wp2_with fail
 go_loopg [18] n (fun gk v wr=>∃ (k:Nat) (T':TS),gk=n - k∧k≤n∧v=.int .i64 k∧AM w0 wr T'∧TEr w1 wr T T'∧T'.F.length+k=n∧T'.free.count true=T.free.count true+k∧∀ j g,k≤j→H[j]?=some g→∃ x,x∈T'.F∧x.1=g)
 case atStart=>exact ⟨0,T,rfl,Nat.zero_le _,rfl,hA1.out,TEr.refl hA1.out,by have:=hlh2.out;omega,rfl,fun j g _ hg=>hno2.out g (List.mem_of_getElem? hg)⟩
 case round =>
  obtain ⟨k,T',rfl,hk,rfl,hA,hE,hL,hF,hR⟩:=hrel;by_cases hlt:k < n
  ·obtain ⟨⟨g1,g2⟩,hg⟩:∃ g,H[k]?=some g:=⟨_,List.getElem?_eq_getElem (by have:=hn.out;omega)⟩
   obtain ⟨x,hx,hxg⟩:=hR k _ (Nat.le_refl _) hg;obtain ⟨pb,rfl,hp1,hp2,hp3,k0,k1⟩:=hcel.out wr T' hE k _ hg;simp only at k0 k1;have hal:Below wr.heap.size wr (wr.alloc (.cells #[.int .i64 g1,.int .u64 g2] 71)):=(Below.refl _ _).alloc (Nat.le_refl _) _;have hbx:=heap_alloc_new wr (.cells #[.int .i64 g1,.int .u64 g2] 71);have hA2:(k:Int) < (n:Int):=by omega
   have hA3:(0:Int)≤(k:Int):=by omega
   have hw1:IntKind.i64.wrap ((k:Int)+1)=(k:Int)+1:=IntWalk.i64_in _ (by omega);replace hA:=qh hA;replace hE:=qh hE;replace hL:=qh hL;replace hF:=qh hF;replace hR:=qh hR;replace hg:=qh hg;replace hx:=qh hx;replace hxg:=qh hxg;unfold maxLen at hp3;clear hA1;go_upto_region 4 with fail;generalize wr.alloc (.cells #[.int .i64 g1,.int .u64 g2] 71)=W1 at *;have b0:W1.cell? ⟨wr.heap.size,0,none⟩=some (.int .i64 g1):=by rw [cell_of_heap hbx];rfl
   have b1:W1.cell? ⟨wr.heap.size,1,none⟩=some (.int .u64 g2):=by rw [cell_of_heap hbx];rfl
   have hAb:=hA.out.below hal;have hEb:=hE.out.trans (TEr.below hA.out hal);have hRel:=(hAb.below ((Below.refl W1.heap.size W1).drew)).release hx.out;rw [hxg.out,hE.out.a] at hRel;have c1:=hEb.cell1 hAb;have hq1:=block_lt_of_cell c1;have hqb:=heap_lt hbx;replace hRel:=qh hRel;replace hEb:=qh (hEb.trans (TEr.below hAb ((Below.refl W1.heap.size W1).drew)));clear k0 k1 hAb hal hbx;unfold hV at hRel
   go_region_with (go_at_call 85;refine hRel.out.mono ?_;rintro z w5 ⟨rfl,T4,r1,r2,r3,r4⟩;replace r2:=qh (hEb.out.trans r2);replace r1:=qh r1;replace r3:=qh r3;replace r4:=qh r4)
   all_goals
    go_wp2_with fail;go_roundg (n - (k+1))
    case rel =>
     refine ⟨k+1,T4,rfl,by omega,by go_num,r1.out,r2.out,?_,?_,fun j g hj hgj=>?_⟩
     ·have h1:=fdel_len hA.out.ndf hx.out
      have h2:=r3.out;rw [← hxg.out] at h2;rw [h2];have:=hL.out;omega
     ·rw [r4.out,hF.out];omega
     ·obtain ⟨y,hy,hyg⟩:=hR.out j g (by omega) hgj
      refine ⟨y,?_,hyg⟩;rw [r3.out];refine mem_fdel.2 ⟨fun he=>?_,hy⟩;have h3:H[j]?=H[k]?:=by rw [hgj,hg.out,← hyg,he]
      have h4:=(List.getElem?_inj (List.getElem?_eq_some_iff.1 hgj).1 hnd2.out).1 h3;omega
    case measure=>omega
  ·obtain rfl:k=n:=by omega
   have hF0:T'.F=[]:=List.length_eq_zero_iff.1 (by omega);have hD0:T'.d.A.L=[]:=List.length_eq_zero_iff.1 (by rw [hA.len,hF0];rfl);have ht:T'.t=T.t:=hE.t;have hblk:=hA.blk;rw [ht] at hblk;have xq:=heap_lt hblk;have xf:=fun i=>frozen_of_heap hblk i
   have hs1:=heap_set_same hblk 4 (.int .i64 0);have hs2:=heap_set_same hs1 5 (.int .i64 0);have hs3:=heap_set_same hs2 6 (.bool true);have x4:wr.cell? ⟨T.t,4,none⟩=some (.int .i64 T'.n):=by rw [cell_of_heap hblk];rfl
   have x5:wr.cell? ⟨T.t,5,none⟩=some (.int .i64 T'.ly):=by rw [cell_of_heap hblk];rfl
   have x6:wr.cell? ⟨T.t,6,none⟩=some (.bool false):=by rw [cell_of_heap hblk];rfl
   have hu:Upd [T.t] wr (((wr.setCell ⟨T.t,4,none⟩ (.int .i64 0)).setCell ⟨T.t,5,none⟩ (.int .i64 0)).setCell ⟨T.t,6,none⟩ (.bool true)):=(((Upd.refl [T.t] wr).setCell (p:=⟨T.t,4,none⟩) (by simp) _).setCell (p:=⟨T.t,5,none⟩) (by simp) _).setCell (p:=⟨T.t,6,none⟩) (by simp) _;have hU:RU [4] wr (((wr.setCell ⟨T.t,4,none⟩ (.int .i64 0)).setCell ⟨T.t,5,none⟩ (.int .i64 0)).setCell ⟨T.t,6,none⟩ (.bool true)) T'.ρ T'.ρ:=RU.upd hA.bw.ro hu (fun k hk _=>by simp at hk;subst hk;rw [← ht];simp [hA.rol]);have hfin:Hid (DropEnd w0 w T (.returned (.tuple #[])) (((wr.setCell ⟨T.t,4,none⟩ (.int .i64 0)).setCell ⟨T.t,5,none⟩ (.int .i64 0)).setCell ⟨T.t,6,none⟩ (.bool true))):=qh ⟨rfl,T',⟨hA.bw.ru hU (by simp),hA.hd,hA.ta,hA.tc,hA.rol,⟨_,_,by rw [ht];exact hs3⟩,hD0,hA.cnt⟩,(TEr.below h.out hb1.out).trans (hE.trans ⟨hU.mono (by simp),rfl,rfl,rfl,rfl,rfl,fun _ _=>rfl,rfl⟩),by have:=hlh2.out;omega⟩;replace hblk:=qh hblk;replace hA:=qh hA;replace hE:=qh hE;replace hF0:=qh hF0;replace hD0:=qh hD0;replace hs1:=qh hs1;replace hs2:=qh hs2;replace hs3:=qh hs3;replace hu:=qh hu;replace hU:=qh hU;replace ht:=qh ht;replace hR:=qh hR;replace hL:=qh hL;replace hF:=qh hF;clear hA1;go_wp2_with fail;exact ⟨rfl,.tuple #[],by simp [results,Tryz.results41,go_sem],hfin.out⟩
end
open Go.RowKit
section
variable {w0 w w':World} {T:TS} {S:List Nat}
theorem MGn.below (h:MGn w0 w T) (hb:Below w.heap.size w w'):MGn w0 w' T:=by
 obtain ⟨r1,r2,hk⟩:=h.blk
 exact ⟨h.bw.below hb,h.hd,h.ta,h.tc,h.rol,⟨r1,r2,Below.heap' hb hk⟩,h.emp,h.cnt⟩
theorem MGn.cells (h:MGn w0 w T):∃ r1 r2,w.cell? ⟨T.t,1,none⟩=some (.pointer (some ⟨T.d.A.a,0,none⟩))∧w.cell? ⟨T.t,2,none⟩=some (.int .i64 r1)∧w.cell? ⟨T.t,3,none⟩=some (.int .u64 r2)∧w.cell? ⟨T.t,4,none⟩=some (.int .i64 0)∧w.cell? ⟨T.t,5,none⟩=some (.int .i64 0)∧w.cell? ⟨T.t,6,none⟩=some (.bool true)∧T.t < w.heap.size:=by
 obtain ⟨r1,r2,hb⟩:=h.blk
 refine ⟨r1,r2,?_,?_,?_,?_,?_,?_,heap_lt hb⟩ <;> rw [cell_of_heap hb] <;> rfl
theorem MGn.live (h:MGn w0 w T):Calls Tryz.prog 59 #[.pointer (some ⟨T.d.A.a,0,none⟩)] w fun e w'=>e=.returned (.int .i64 0)∧Below w.heap.size w w':=by
 have:=AMnode.gLive T.d.A [] (some ⟨T.P.1,0,none⟩) w (h.bw.ag h.hd h.ta h.tc)
 rw [h.emp] at this
 exact this
theorem MGn.put (h:MGn w0 w T) (key v:Str):Calls Tryz.prog 22 #[.pointer (some ⟨T.t,0,none⟩),.string key,.string v] w fun e w'=>e=.returned (.tuple #[.string ⟨#[]⟩,.bool false,.int .i64 8])∧Below w.heap.size w w':=by
 obtain ⟨r1,r2,c1,c2,c3,c4,c5,c6,hq⟩:=h.cells
 have hn:=none_ok c1
 clear h
 go_enter Tryz.func22,Tryz.ntmps22
 go_wp2_with fail
 refine hn.mono ?_
 rintro e w1 ⟨rfl,rfl⟩
 go_wp2_with fail
 go_ret3
 exact ⟨rfl,Below.refl _ _⟩
theorem MGn.drop (h:MGn w0 w T):Calls Tryz.prog 41 #[.pointer (some ⟨T.t,0,none⟩)] w fun e w'=>e=.returned (.tuple #[])∧w=w':=by
 obtain ⟨r1,r2,c1,c2,c3,c4,c5,c6,hq⟩:=h.cells
 have hn:=none_ok c1
 clear h
 go_enter Tryz.func41,Tryz.ntmps41
 go_wp2_with fail
 refine hn.mono ?_
 rintro e w1 ⟨rfl,rfl⟩
 go_wp2_with fail
 exact ⟨rfl,.tuple #[],by simp [results,Tryz.results41,go_sem],rfl,rfl⟩
theorem MGn.len (h:MGn w0 w T):Calls Tryz.prog 24 #[.pointer (some ⟨T.t,0,none⟩)] w fun e w'=>e=.returned (.int .i64 0)∧w=w':=by
 obtain ⟨r1,r2,c1,c2,c3,c4,c5,c6,hq⟩:=h.cells
 have hn:=none_ok c1
 clear h
 go_enter Tryz.func24,Tryz.ntmps24
 go_wp2_with fail
 refine hn.mono ?_
 rintro e w1 ⟨rfl,rfl⟩
 go_wp2_with fail
 go_ret
 exact ⟨rfl,rfl⟩
theorem MGn.slots (h:MGn w0 w T):Calls Tryz.prog 25 #[.pointer (some ⟨T.t,0,none⟩)] w fun e w'=>e=.returned (.int .i64 0)∧Below w.heap.size w w':=by
 obtain ⟨r1,r2,c1,c2,c3,c4,c5,c6,hq⟩:=h.cells
 have hn:=none_ok c1
 have hL:=qh h.live
 clear h
 go_enter Tryz.func25,Tryz.ntmps25
 go_wp2_with fail
 refine hn.mono ?_
 rintro e w1 ⟨rfl,rfl⟩
 go_wp2_with fail
 refine hL.out.mono ?_
 rintro e w1 ⟨rfl,hb⟩
 go_wp2_with fail
 go_ret
 exact ⟨rfl,hb⟩
end
end Go.Proofs.YtbdealmkmpnpoaaGreat.M
namespace Go.Proofs.YtbdealmkmpnpoaaGreat
open Go.RowKit Go.Sort
variable {α:Type} [Inhabited α] {base k:Nat} {e:TypeId} {f:α→List Value} {w:World} {L:List α}
theorem flatK_eq (hf:∀ x,(f x).length=k) (hk:0 < k) (L:List α):(flatK f k L.toArray).toList=L.flatMap f:=by
 apply List.ext_getElem?
 intro t
 by_cases ht:t < L.length*k
 ·have hq:t / k < L.length:=by rw [Nat.div_lt_iff_lt_mul hk];exact ht
  have hr:t % k < k:=Nat.mod_lt _ hk;have h1:L[t / k]?=some L[t / k]:=List.getElem?_eq_getElem hq;have h2:(f L[t / k])[t % k]?=some ((f L[t / k])[t % k]'(by rw [hf];exact hr)):=List.getElem?_eq_getElem _;have h3:=flat_get hf L (t / k) _ h1 (t % k) _ h2;rw [show t / k*k+t % k=t by rw [Nat.mul_comm];exact Nat.div_add_mod t k] at h3;rw [h3,Array.getElem?_toList,Array.getElem?_eq_getElem (by rw [size_flatK];simpa using ht)];have h4:=get_flatK f k L.toArray t (by simpa using ht);rw [getElem!_pos _ t (by rw [size_flatK];simpa using ht)] at h4;rw [h4];simp [getElem!_pos,hq,h2]
 ·rw [List.getElem?_eq_none (by rw [Array.length_toList,size_flatK];simpa using ht),List.getElem?_eq_none (by rw [flat_len hf];omega)]
theorem Row.holdsK {b n cap:Nat} (h:Row base e k f w (.slice (some ⟨b,0,none⟩) n cap) L) (hk:0 < k):HoldsK f k w b 0 L.toArray:=by
 rcases h.cases with ⟨h0,_⟩ | ⟨b',cap',h0,_,_,_,_,_,hc,hfz⟩
 ·cases h0
 ·injection h0 with h0 _ _
  injection h0 with h0;injection h0 with h0;subst h0;intro j hj;have hj':j < (L.flatMap f).length:=by rw [flat_len h.1];simpa using hj
  refine ⟨?_,by rw [Nat.zero_add];exact hfz _⟩;have h2:=hc j _ (List.getElem?_eq_getElem hj');rw [Nat.zero_add,h2];have h3:=flatK_eq h.1 hk L
  have h4:(flatK f k L.toArray)[j]! = (L.flatMap f)[j]:=by
   rw [getElem!_pos _ j hj];have:(flatK f k L.toArray).toList[j]'(by simpa using hj)=(L.flatMap f)[j]:=by simp only [h3]
   simpa using this
  rw [id,h4]
theorem take_putCells_id (cur:Array Value) (ts:List Value) (h:ts.length≤cur.size):(putCells id 0 ts.toArray cur).toList.take ts.length=ts:=by
 apply List.ext_getElem?
 intro j
 by_cases hj:j < ts.length
 ·rw [List.getElem?_take_of_lt hj,Array.getElem?_toList]
  simp [putCells,hj,Nat.lt_of_lt_of_le hj h]
 ·rw [List.getElem?_eq_none (by simp;omega),List.getElem?_eq_none (by omega)]
theorem Row.sorted {b n cap : Nat} (h : Row base e k f w (.slice (some ⟨b, 0, none⟩) n cap) L) (hk : 0 < k) (L' : List α) (hl : L'.length = L.length) (m : Nat) (os : Array Obj) :
    Row base e k f (sortWorldK f k w b 0 m L'.toArray os) (.slice (some ⟨b,0,none⟩) n cap) L'∧Upd [b] w (sortWorldK f k w b 0 m L'.toArray os):=by
 have hfl:(flatK f k L'.toArray)=(L'.flatMap f).toArray:=by rw [← flatK_eq h.1 hk L']
 obtain ⟨hf,h1,h2,h3⟩:=h
 rcases h3 with ⟨h0,_⟩ | ⟨g,cap',cur,h0,q1,q2,q3,q4,q5,q6⟩
 ·cases h0
 ·have hL:n=L.length:=by injection h0
  injection h0 with e1 e2 e3;injection e1 with e1;injection e1 with e1;subst e1 e3;have hgl:b < w.heap.size:=heap_lt q2
  have hb':(sortWorldK f k w b 0 m L'.toArray os).heap[b]?=some (.cells (putCells id 0 (L'.flatMap f).toArray cur) e (0,0)):=by
   unfold sortWorldK putRowK;rw [hfl,heap_grow_old _ _ (by simp [putRow,mapBlock,Sort.ahead];exact hgl)];simp [putRow,mapBlock,Sort.ahead,Array.getElem?_modify,q2,onCells]
  have hlen:(L'.flatMap f).length≤cur.size:=by
   rw [flat_len hf,hl,q5];exact Nat.mul_le_mul_right _ q3
  refine ⟨⟨hf,h1,flat_len hf L',.inr ⟨b,cap,_,?_,q1,hb',by rw [hl];exact q3,q4,by simp [putCells,q5],?_⟩⟩,⟨rfl,rfl,rfl,?_,fun j hj hn=>?_⟩⟩
  ·rw [hl,← hL]
  ·rw [← flat_len hf]
   exact take_putCells_id cur _ hlen
  ·simp [sortWorldK,putRowK,grow,putRow,mapBlock,Sort.ahead]
  ·have hjb:b≠j:=fun e1=>hn (by rw [e1];simp)
   unfold sortWorldK putRowK;rw [heap_grow_old _ _ (by simpa [putRow,mapBlock,Sort.ahead] using hj)];simp [putRow,mapBlock,Sort.ahead,Array.getElem?_modify,hjb]
end Go.Proofs.YtbdealmkmpnpoaaGreat
namespace Go.Proofs
open Go.Shelf
def Tryz.sortHandles_ren:Go.Shelf.Ren:=⟨fun | 6=>127 | 15=>153 | 14=>152 | 28=>167 | 29=>168 | 20=>159 | 21=>160 | 22=>161 | 23=>162 | 24=>163 | 25=>164 | 26=>165 | 27=>166 | 46=>172 | 47=>173 | 48=>174 | 49=>175 | 50=>176 | 57=>178 | n=>n,fun | 22=>77 | 24=>71 | 25=>215 | 3=>3 | 39=>223 | 0=>0 | 53=>252 | 55=>69 | 4=>4 | 46=>246 | 45=>245 | 50=>108 | 5=>5 | 9=>9 | 66=>254 | 70=>257 | 76=>260 | 77=>261 | n=>n,fun | n=>n⟩
theorem Tryz.sortHandles:Go.Proofs.SlLaysF0.n6 Tryz.prog Tryz.sortHandles_ren:={
 mixed:=by kernel_rfl
 f6:=⟨Tryz.f127.name,by decide,Tryz.func127.trans (congrArg some (by kernel_rfl))⟩
 f14:=⟨Tryz.f152.name,by decide,Tryz.func152.trans (congrArg some (by kernel_rfl))⟩
 f15:=Tryz.func153.trans (congrArg some (by kernel_rfl))
 f20:=⟨Tryz.f159.name,by decide,Tryz.func159.trans (congrArg some (by kernel_rfl))⟩
 f21:=⟨Tryz.f160.name,by decide,Tryz.func160.trans (congrArg some (by kernel_rfl))⟩
 f22:=⟨Tryz.f161.name,by decide,Tryz.func161.trans (congrArg some (by kernel_rfl))⟩
 f23:=⟨Tryz.f162.name,by decide,Tryz.func162.trans (congrArg some (by kernel_rfl))⟩
 f24:=⟨Tryz.f163.name,by decide,Tryz.func163.trans (congrArg some (by kernel_rfl))⟩
 f25:=⟨Tryz.f164.name,by decide,Tryz.func164.trans (congrArg some (by kernel_rfl))⟩
 f26:=⟨Tryz.f165.name,by decide,Tryz.func165.trans (congrArg some (by kernel_rfl))⟩
 f27:=⟨Tryz.f166.name,by decide,Tryz.func166.trans (congrArg some (by kernel_rfl))⟩
 f28:=Tryz.func167.trans (congrArg some (by kernel_rfl))
 f29:=Tryz.func168.trans (congrArg some (by kernel_rfl))
 f46:=⟨Tryz.f172.name,by decide,Tryz.func172.trans (congrArg some (by kernel_rfl))⟩
 f47:=Tryz.func173.trans (congrArg some (by kernel_rfl))
 f48:=Tryz.func174.trans (congrArg some (by kernel_rfl))
 f49:=⟨Tryz.f175.name,by decide,Tryz.func175.trans (congrArg some (by kernel_rfl))⟩
 f50:=⟨Tryz.f176.name,by decide,Tryz.func176.trans (congrArg some (by kernel_rfl))⟩
 f57:=⟨Tryz.f178.name,by decide,Tryz.func178.trans (congrArg some (by kernel_rfl))⟩
 t0:=Tryz.underlying0
 a0:=Tryz.isAgg0
 z0:=Tryz.sizeOf0
 v0:=Tryz.zeroValue0
 t3:=Tryz.underlying3
 a3:=Tryz.isAgg3
 z3:=Tryz.sizeOf3
 v3:=Tryz.zeroValue3
 t4:=Tryz.underlying4
 a4:=Tryz.isAgg4
 z4:=Tryz.sizeOf4
 v4:=Tryz.zeroValue4
 t5:=Tryz.underlying5
 a5:=Tryz.isAgg5
 z5:=Tryz.sizeOf5
 v5:=Tryz.zeroValue5
 t9:=Tryz.underlying9
 a9:=Tryz.isAgg9
 z9:=Tryz.sizeOf9
 v9:=Tryz.zeroValue9
 t22:=Tryz.underlying77
 a22:=Tryz.isAgg77
 z22:=Tryz.sizeOf77
 v22:=Tryz.zeroValue77
 t25:=Tryz.underlying215
 a25:=Tryz.isAgg215
 z25:=Tryz.sizeOf215
 v25:=Tryz.zeroValue215
 t39:=Tryz.underlying223
 a39:=Tryz.isAgg223
 z39:=Tryz.sizeOf223
 v39:=Tryz.zeroValue223
 t45:=Tryz.underlying245
 a45:=Tryz.isAgg245
 z45:=Tryz.sizeOf245
 v45:=Tryz.zeroValue245
 t46:=Tryz.underlying246
 a46:=Tryz.isAgg246
 z46:=Tryz.sizeOf246
 v46:=Tryz.zeroValue246
 t50:=Tryz.underlying108
 a50:=Tryz.isAgg108
 z50:=Tryz.sizeOf108
 v50:=Tryz.zeroValue108
 t53:=Tryz.underlying252
 a53:=Tryz.isAgg252
 z53:=Tryz.sizeOf252
 v53:=Tryz.zeroValue252
 t55:=Tryz.underlying69
 a55:=Tryz.isAgg69
 z55:=Tryz.sizeOf69
 v55:=Tryz.zeroValue69
 t66:=Tryz.underlying254
 a66:=Tryz.isAgg254
 z66:=Tryz.sizeOf254
 v66:=Tryz.zeroValue254
 t70:=Tryz.underlying257
 a70:=Tryz.isAgg257
 z70:=Tryz.sizeOf257
 v70:=Tryz.zeroValue257
 t76:=Tryz.underlying260
 a76:=Tryz.isAgg260
 z76:=Tryz.sizeOf260
 v76:=Tryz.zeroValue260
 t77:=Tryz.underlying261
 a77:=Tryz.isAgg261
 z77:=Tryz.sizeOf261
 v77:=Tryz.zeroValue261 }
def Tryz.cmpInt_ren:Go.Shelf.Ren:=⟨fun | 5=>129 | 7=>154 | n=>n,fun | 22=>3 | 3=>3 | 4=>4 | n=>n,fun | n=>n⟩
theorem Tryz.cmpInt:Go.Proofs.SlLaysC2.n5 Tryz.prog Tryz.cmpInt_ren:={
 mixed:=by kernel_rfl
 f5:=⟨Tryz.f129.name,by decide,Tryz.func129.trans (congrArg some (by kernel_rfl))⟩
 f7:=⟨Tryz.f154.name,by decide,Tryz.func154.trans (congrArg some (by kernel_rfl))⟩
 t3:=Tryz.underlying3
 a3:=Tryz.isAgg3
 z3:=Tryz.sizeOf3
 v3:=Tryz.zeroValue3
 t4:=Tryz.underlying4
 a4:=Tryz.isAgg4
 z4:=Tryz.sizeOf4
 v4:=Tryz.zeroValue4
 t22:=Tryz.underlying3
 a22:=Tryz.isAgg3
 z22:=Tryz.sizeOf3
 v22:=Tryz.zeroValue3 }
end Go.Proofs
namespace Go.Proofs.YtbdealmkmpnpoaaGreat
open Go.RowKit Go.Sort
def hcell (x:Int×Int):List Value:=[.int .i64 x.1,.int .u64 x.2]
theorem hcell_len (x:Int×Int):(hcell x).length=2:=rfl
theorem hcell_one (x:Int×Int):∀ y∈hcell x,y.oneCell'=true:=by
 intro y hy
 simp [hcell] at hy
 rcases hy with rfl | rfl <;> rfl
def cmpSlot (x y:Int×Int):Int:=Lib.compareInt x.1 y.1
theorem ltSlot (x y:Int×Int):ltOf cmpSlot x y=decide (x.1 < y.1):=by
 unfold ltOf cmpSlot Lib.compareInt
 by_cases h1:x.1 < y.1
 ·simp [h1]
 ·by_cases h2:y.1 < x.1 <;> simp [h1,h2]
theorem swoSlot:SWO (ltOf cmpSlot) where
 irrefl x:=by rw [ltSlot];simp
 trans x y z h1 h2:=by rw [ltSlot] at *;simp at *;omega
 ntrans x y z h1 h2:=by rw [ltSlot] at *;simp at *;omega
def CmpClo (g:FuncId):Prop:=∀ (x y:Int×Int) (W:World),Calls Tryz.prog g #[.agg #[.int .i64 x.1,.int .u64 x.2],.agg #[.int .i64 y.1,.int .u64 y.2]] W fun e w'=>e=.returned (.int .i64 (cmpSlot x y))∧∃ q os',w'=grow (W.drewN q) os'
theorem sortHands_any {base : Nat} {L : List (Int × Int)} (g : FuncId) (hg : CmpClo g) (eg : ∀ args w, (callFunc g args).run Tryz.prog w = .ok (.enter g args) w) (a : Option Addr) (c : Nat) (w : World) (h : Row base 71 2 hcell w (.slice a L.length c) L) (hl : L.length ≤ 1000000) :
    Calls Tryz.prog 127 #[.slice a L.length c,.func (.func g) #[] #[]] w fun e w'=>e=.returned (.tuple #[])∧∃ L',L'.Perm L∧L'.Pairwise (fun x y=>x.1≤y.1)∧Row base 71 2 hcell w' (.slice a L.length c) L'∧Upd (Value.slice a L.length c).ownBlock.toList w w':=by
 rcases h.cases with ⟨h0,rfl⟩ | ⟨b,cap,h0,h1,h2,h3,h4,h5,_⟩
 ·injection h0 with e1 e2 e3
  subst e1 e3;have hc:=AnyF.slices_SortFunc_none Tryz.sortHandles none 0 (.func (.func g) #[] #[]) w;refine hc.mono ?_;rintro z w' ⟨rfl,rfl⟩;exact ⟨rfl,[],.refl _,by simp,h,Upd.refl _ _⟩
 ·injection h0 with e1 e2 e3
  subst e1 e3;have hcon:=AnyQ.slices_SortFunc Tryz.sortHandles 2 Tryz.isAgg71 Tryz.sizeOf71 hcell hcell_len hcell_one cmpSlot swoSlot g #[] b 0 c L.toArray w eg (fun _ _ _ _ x y=>hg x y _) (h.holdsK (by decide)) h2 (by simp;omega);refine hcon.mono ?_;rintro z w' ⟨rfl,d',n,os,⟨hp1,_,hp3⟩,hs,rfl⟩;have hsz:d'.size=L.length:=by simpa using hp1
  have hpm:d'.toList.Perm L:=by
   have:=hp3;simp at this
   rwa [List.take_of_length_le (by simp [hsz])] at this
  obtain ⟨r1,r2⟩:=h.sorted (by decide) d'.toList (by simpa using hsz) n os;refine ⟨rfl,d'.toList,hpm,?_,by simpa using r1,by simpa [Value.ownBlock] using r2⟩;rw [List.pairwise_iff_getElem];intro i j hi hj hij;have h6:=hs i j (Nat.zero_le _) hij (by simpa [hsz] using hj);rw [ltSlot,getElem!_pos d' j (by simpa using hj),getElem!_pos d' i (by simpa using hi)] at h6;simp at h6 ⊢;exact h6
theorem hand_info:∃ i0:TypeInfo,Tryz.prog.info? 71=some i0∧i0.zero=some (.agg #[.int .i64 0,.int .u64 0])∧i0.size=2∧i0.bytes=16:=info_parts (show (Tryz.prog.info? 71).map (fun i=>(i.zero,i.size,i.bytes))=some (some (.agg #[.int .i64 0,.int .u64 0]),2,16) by kernel_rfl)
def hof (x:AEnt):Int×Int:=(x.slot,x.gen)
def handsOf (L:List AEnt):List (Int×Int):=(L.map hof).mergeSort fun x y=>decide (x.1≤y.1)
theorem slots_sorted {L:List AEnt} (hn:(L.map AEnt.slot).Nodup) {M:List (Int×Int)} (hp:M.Perm (L.map hof)) (hs:M.Pairwise (fun x y=>x.1≤y.1)):M=handsOf L:=by
 have tr:∀ a b c:Int×Int,decide (a.1≤b.1)=true→decide (b.1≤c.1)=true→decide (a.1≤c.1)=true:=fun a b c h1 h2=>by simp at *;omega
 have tz_:∀ a b:Int×Int,(decide (a.1≤b.1) || decide (b.1≤a.1))=true:=fun a b=>by simp;omega
 refine List.Perm.eq_of_pairwise (le:=fun x y=>x.1≤y.1) (fun a b ha hb h1 h2=>?_) hs ((List.pairwise_mergeSort tr tz_ (L.map hof)).imp (fun h=>by simpa using h)) (hp.trans (List.mergeSort_perm _ _).symm)
 have ha':=hp.mem_iff.1 ha
 have hb':=(List.mergeSort_perm _ _).mem_iff.1 hb
 obtain ⟨x,hx,rfl⟩:=List.mem_map.1 ha'
 obtain ⟨y,hy,rfl⟩:=List.mem_map.1 hb'
 have hxy:x.slot=y.slot:=by simp [hof] at h1 h2;omega
 have:x=y:=by
  have hn':=hn;clear hn hp hs ha hb ha' hb' h1 h2
  induction L with
  | nil=>cases hx
  | cons a l ih =>
   rw [List.map_cons,List.nodup_cons] at hn';rcases List.mem_cons.1 hx with hx | hx <;> rcases List.mem_cons.1 hy with hy | hy
   ·rw [hx,hy]
   ·exact absurd (by rw [← hx,hxy];exact List.mem_map_of_mem hy) hn'.1
   ·exact absurd (by rw [← hy,← hxy];exact List.mem_map_of_mem hx) hn'.1
   ·exact ih hx hy hn'.2
 rw [this]
open Go.RowKit Go.Sort
namespace AMnode
theorem cmp_clo:CmpClo 128:=by
 intro x y W
 have hcon:=fun W'=>AnyG.cmp_Compare_int Tryz.cmpInt x.1 y.1 W'
 change ∀ W',Calls Tryz.prog 129 _ _ _ at hcon
 unfold cmpSlot
 generalize Lib.compareInt x.1 y.1=r at hcon ⊢
 go_enter Tryz.func128,Tryz.ntmps128
 go_wp2_with (go_at_call 129;refine (hcon _).mono ?_;rintro e w' ⟨rfl,rfl⟩)
 go_ret
 exact ⟨rfl,0,_,by rw [alloc_eq_grow,alloc_eq_grow,grow_grow];rfl⟩
def HandlesEnd (L:List AEnt) (w:World) (z:Ending) (w':World):Prop :=
 ∃ a c,z=.returned (.slice a (handsOf L).length c)∧Row w.heap.size 71 2 hcell w' (.slice a (handsOf L).length c) (handsOf L)∧Below w.heap.size w w'
set_option maxRecDepth 100000 in
set_option maxHeartbeats 1000000 in
theorem aHandles_any (A : AR) (R : List Nat) (p : Option Addr) (w : World) (h : ArenaG 162 192 w R p A) (hbd : Born AEnt.born A.L A.c) (hl : A.L.length ≤ 100000) :
    Calls Tryz.prog 84 #[.pointer (some ⟨A.a,0,none⟩)] w (HandlesEnd A.L w):=by
 obtain ⟨q1,q2,q3,q4,q5,q6⟩:=h
 obtain ⟨aa,m,L,cc⟩:=A
 simp only at q1 q2 q3 q4 q5 q6 hbd hl ⊢
 have c1:w.cell? ⟨aa,1,none⟩=some (.map (some m)):=by rw [cell_of_heap q2];rfl
 have hmap:w.heap[m]?=some (.map (ents (L.map (entOf (fun e=>(e.slot:Int)) (fun e=>.pointer (some ⟨e.blk,0,none⟩)) AEnt.born))) cc):=q3
 have hml:=heap_lt hmap
 replace q4:=qh q4
 replace q6:=qh q6
 replace hmap:=qh hmap
 clear q1 q2 q3 q5
 obtain ⟨i0,hi0,hz0,hz1,hz2⟩:=hand_info
 go_enter Tryz.func84,Tryz.ntmps84
 go_wp2_with (at_range;refine wpList_range_ents _ rfl _ 160 rfl 3 188 Tryz.underlying160 m L cc rfl hmap.out hbd ?_;intro w0 hrg0 hb0 hs0)
 go_frame
 replace hrg0:=qh hrg0
 replace hb0:=qh hb0
 replace hs0:=qh hs0
 go_loopg [3] L.length (fun gk lv wr=>∃ (T:List AEnt) (a:Option Addr) (c:Nat),gk=L.length - T.length∧lv=.slice a T.length c∧Rg (fun e=>(e.slot:Int)) (fun e=>.pointer (some ⟨e.blk,0,none⟩)) AEnt.born wr w.heap.size m L cc T ∧
  Row w.heap.size 71 2 hcell wr (.slice a T.length c) (T.map hof)∧(Value.slice a T.length c).ownBlock≠some w.heap.size∧Below w.heap.size w wr)
 case atStart=>exact ⟨[],none,0,by simp,rfl,hrg0.out,Row.nil hcell_len hcell_one _ _ _,by simp [Value.ownBlock],hb0.out⟩
 case round =>
  obtain ⟨T,a,c,rfl,rfl,hrg,hrow,hoi,hB⟩:=hrel;have hlen:=hrg.len;replace hB:=qh hB;replace hrow:=qh hrow;replace hoi:=qh hoi;clear hrg0 hb0 hs0
  go_wp2_with (at_next;refine wpList_next_ents (mk:=fun e:AEnt=>(e.slot:Int)) (mv:=fun e=>.pointer (some ⟨e.blk,0,none⟩)) (bn:=AEnt.born) _ rfl _ rfl w.heap.size m L T cc rfl hrg ?_ ?_)
  ·intro hp
   have hln:T.length=(T.map hof).length:=by simp
   have hrw:=hrow.out;rw [hln] at hrw;have hsr:=qh (sortHands_any 128 cmp_clo (enters_of Tryz.func128 (by kernel_rfl) rfl) a c wr hrw (by simp;omega));rw [← hln] at hsr;replace hln:=qh hln;clear hrw hrg;go_wp2_with fail;refine hsr.out.mono ?_;clear hsr;rintro z w3 ⟨rfl,L',hpm,hpw,hr3,hu3⟩;have he:L'=handsOf L:=slots_sorted q4.out (hpm.trans (hp.map hof)) hpw;subst he;have hle:(handsOf L).length=T.length:=by rw [hpm.length_eq];simp
   go_wp2_with fail;go_ret;refine ⟨a,c,by rw [hle];rfl,by rw [hle];exact hr3,hB.out.trans (hu3.below hB.out.size (fun k hk=>(hrow.out.lt k (mem_own hk)).1))⟩
  ·intro x w1 hx hxT hrg1 hu1 hs1 hen
   have hxs:=q6.out x hx;have hb1:=hB.out.trans (hu1.below hB.out.size (by simp));have hg0:w1.cell? ⟨x.blk,0,none⟩=some (.int .u64 x.gen):=keep hb1 (by rw [cell_of_heap hxs.2];rfl);have hrow1:=hrow.out.upd hu1 (by simp;intro b hb hh;exact hoi.out (by rw [hb,hh]));have hrl:=hrg1.len;have hB2:Below w1.heap.size w1 (w1.alloc (.cells #[.int .i64 x.slot,.int .u64 x.gen] 71)):=(Below.refl _ _).alloc (Nat.le_refl _) _;have hR:=qh (hrow1.below hB2);have hS:=qh (SrcOf.one w1 71 (hcell (hof x)) (hcell_one _));have hbs:w.heap.size≤(w1.alloc (.cells #[.int .i64 x.slot,.int .u64 x.gen] 71)).heap.size:=Nat.le_trans hb1.size hB2.size;have hln:T.length=(T.map hof).length:=by simp
   have hm63:(T.map hof).length+[hof x].length≤maxLen:=by unfold maxLen;simp;simp at hrl;omega
   have hmby:((T.map hof).length+[hof x].length)*16≤140737488355328:=by simp;simp at hrl;omega
   replace hbs:=qh hbs;replace hm63:=qh hm63
   replace hmby:=qh hmby;replace hs1:=qh hs1;replace hu1:=qh hu1;replace hrl:=qh hrl;have hrg1':=qh hrg1;replace hb1:=qh hb1;replace hln:=qh hln;clear hrow1 hB2 hxs hrg hrg1
   go_wp2_with (at_builtin;refine wpList_append_row (f:=hcell) (L:=T.map hof) (M:=[hof x]) _ rfl _ _ 77 rfl w.heap.size 71 i0 (.agg #[.int .i64 0,.int .u64 0]) 2 16 Tryz.underlying77 hi0 hz0 hz1 hz2 rfl (by decide) (.slice a T.length c) rfl hR.out (.slice (some ⟨w1.heap.size,0,none⟩) 1 1) rfl hS.out hm63.out hmby.out hbs.out ?_;intro a5 c5 w5 hrow5 hu5 hat5;replace hrow5:=qh hrow5;replace hu5:=qh hu5;replace hat5:=qh hat5)
   go_roundg (L.length - (T.length+1))
   case measure =>
    have:=hrl.out;simp at this;omega
   case rel =>
    have e1:(T.map hof).length+[hof x].length=(T++[x]).length:=by simp
    have e2:T.map hof++[hof x]=(T++[x]).map hof:=by simp
    have hr5:=hrow5.out;rw [e1,e2] at hr5;have hnw:∀ q,q∈(Value.slice a T.length c).ownBlock.toList→w.heap.size≤q∧q≠w.heap.size:=fun q hq=>⟨(hrow.out.lt q (mem_own hq)).1,fun hh=>hoi.out (by rw [mem_own hq,hh])⟩
    have hu6:Upd (Value.slice a T.length c).ownBlock.toList w1 w5:=((Upd.refl _ _).alloc _).trans hu5.out;have h1:=hb1.out.size
    have hit:w.heap.size < w1.heap.size:=by
     obtain ⟨seen,c0,hh,_⟩:=hrg1'.out.it;exact heap_lt hh
    refine ⟨T++[x],a5,c5,by simp,by simp,hrg1'.out.upd hu6 (fun hh=>(hnw _ hh).2 rfl) (fun hh=>by have:=(hnw _ hh).1;omega),hr5,fun hh=>?_,hb1.out.trans (hu6.below h1 (fun k hk=>(hnw k hk).1))⟩;have hat:=hat5.out;rw [e1] at hat;rcases hat with h2 | h2
    ·rw [h2] at hh;exact hoi.out hh
    ·rw [h2] at hh;injection hh with hh;simp at hh;omega
end AMnode
end Go.Proofs.YtbdealmkmpnpoaaGreat
namespace Go.Proofs.YtbdealmkmpnpoaaGreat.M
open Go.RowKit
theorem hands_ok:HandsOK:=fun A p W h hb hl=>by
 refine (AMnode.aHandles_any A [] p W h hb hl).mono ?_
 rintro e w' ⟨a,c,he,hr,hbw⟩
 refine ⟨a,c,handsOf A.L,he,hr,?_,hbw⟩
 exact List.mergeSort_perm _ _
def swp (r:Nat):Nat:=if r=4 then 6 else if r=5 then 7 else if r=6 then 4 else if r=7 then 5 else r
theorem swp_swp (r:Nat):swp (swp r)=r:=by
 by_cases h1:r=4
 ·subst h1;rfl
 by_cases h2:r=5
 ·subst h2;rfl
 by_cases h3:r=6
 ·subst h3;rfl
 by_cases h4:r=7
 ·subst h4;rfl
 have e:swp r=r:=by
  unfold swp;rw [if_neg h1,if_neg h2,if_neg h3,if_neg h4]
 rw [e,e]
theorem swp_low {r:Nat} (h:r < 4∨8≤r):swp r=r:=by
 unfold swp
 rw [if_neg (by omega),if_neg (by omega),if_neg (by omega),if_neg (by omega)]
section
variable {w0 w w':World} {ρ ρ':Nat→Nat} {P:Nat×Nat×Nat} {gens gens':List Int} {free free':List Bool} {D D':List ArD} {rs:List Nat} {T T':TS} {Y:List Ly} {C:Cont Str} {k pt:Nat}
theorem Ro.swp (h:Ro w0 w ρ):Ro w0 w (fun q=>swp (ρ q)):=⟨h.bel,fun k hk=>by show M.swp (ρ k)=0;rw [h.old k hk];rfl,fun k hk=>by show M.swp (ρ k)=0;rw [h.far k hk];rfl⟩
theorem RU.swp (h:RU rs w w' ρ ρ'):RU (rs.map M.swp) w w' (fun q=>swp (ρ q)) (fun q=>swp (ρ' q)) :=
 ⟨h.os,h.tape,h.output,h.size,fun k hk hn=>h.block k hk fun hm=>hn (List.mem_map.2 ⟨_,hm,rfl⟩),fun k hk=>by show M.swp (ρ' k)=M.swp (ρ k);rw [h.role k hk],fun k hk=>by show M.swp (ρ' k)=0;rw [h.far k hk];rfl⟩
theorem BW.swp (h:BW w0 w ρ P gens free D):BW w0 w (fun q=>swp (ρ q)) P gens free D:=by
 refine ⟨Ro.swp h.ro,⟨?_,fun i d hd=>?_⟩⟩
 ·obtain ⟨hp,r1,r2,r3⟩:=h.ars.pool
  exact ⟨hp,by show M.swp _=1;rw [show ρ _=1 from r1];rfl,by show M.swp _=2;rw [show ρ _=2 from r2];rfl,by show M.swp _=3;rw [show ρ _=3 from r3];rfl⟩
 ·obtain ⟨a1,a2,a3,a4,a5⟩:=h.ars.ar i d hd
  exact ⟨a1,a2,by show M.swp _=_;rw [a3,swp_low (by omega)],by show M.swp _=_;rw [a4,swp_low (by omega)],fun e he=>⟨by show M.swp _=_;rw [(a5 e he).1,swp_low (by omega)],(a5 e he).2⟩⟩
theorem MTw.carry (h : MTw w0 w T Y C k pt) (hB : BW w0 w' ρ' P gens' free' D') (hP : T.P = P) (hu : RU rs w w' T.ρ ρ') (h4 : 4 ∉ rs) (h5 : 5 ∉ rs) (hd : D'[T.i]? = some T.d)
    (hs:∀ j d' e e',j≠T.i→D'[j]?=some d'→e∈d'.A.L→e'∈T.d.A.L→e.slot≠e'.slot) (hc:free'.count true+(D'.map fun d=>d.A.L.length).sum=free'.length) :
    MTw w0 w' { T with ρ:=ρ',gens:=gens',free:=free',D:=D' } Y C k pt:=by
 subst hP
 have ha:=h.mf.am
 have hA:AM w0 w' { T with ρ:=ρ',gens:=gens',free:=free',D:=D' } :=
  ⟨hB,hd,ha.ta,ha.tc,by show ρ' T.t=4;rw [hu.role _ (heap_lt ha.blk)];exact ha.rol,hu.heap ha.blk (by rw [ha.rol];exact h4),ha.ent,fun x hx=>(ha.ok x hx).ru hu h5,ha.ndf,ha.len,hs,hc⟩
 exact ⟨⟨hA,h.mf.fl,h.mf.kd⟩,h.wy,h.ct,h.ro,h.ly,h.n⟩
end
structure Two (w0 w:World) (p ta tb:Nat) (Ca Cb:Cont Str) (ka pa kb pb:Nat) (aa:Option Addr) (ac:Nat) (Ta Tb:TS) (Ya Yb:List Ly):Prop where
 a:MTw w0 w Ta Ya Ca ka pa
 b:MTw w0 w Tb Yb Cb kb pb
 ta:Ta.t=ta
 tb:Tb.t=tb
 p:Tb.P.1=p
 P:Ta.P=Tb.P
 g:Ta.gens=Tb.gens
 f:Ta.free=Tb.free
 D:Ta.D=Tb.D
 ia:Ta.i=0
 ib:Tb.i=1
 l:Tb.D.length=2
 ρ:∀ q,Ta.ρ q=swp (Tb.ρ q)
 row:At w 2 pcel aa ac Ca
 r0:∀ b o m,aa=some ⟨b,o,m⟩→Ca≠[]→b < w.heap.size∧Tb.ρ b=0
section
variable {w0 w w':World} {p ta tb:Nat} {Ca Cb Cb':Cont Str} {ka pa kb pb kb' pb':Nat} {aa:Option Addr} {ac:Nat} {Ta Tb Tb':TS} {Ya Yb Yb':List Ly} {rs:List Nat}
theorem At.ru {ρ ρ':Nat→Nat} (h:At w 2 pcel aa ac Ca) (hu:RU rs w w' ρ ρ') (h0:0∉rs) (hr:∀ b o m,aa=some ⟨b,o,m⟩→Ca≠[]→b < w.heap.size∧ρ b=0):At w' 2 pcel aa ac Ca:=by
 obtain ⟨h1,h2,h3⟩:=h
 refine ⟨h1,h2,?_⟩
 rcases h3 with h3 | ⟨b,o,e,h4,h5⟩
 ·exact .inl h3
 ·refine .inr ⟨b,o,e,fun hn=>Nat.lt_of_lt_of_le (h4 hn) hu.size,fun i x hx j y hy=>?_⟩
  have hne:Ca≠[]:=fun e0=>by rw [e0] at hx;simp at hx
  obtain ⟨k1,k2⟩:=hr b o _ e hne;rw [World.cell?_of_block (hu.block b k1 (by rw [k2];exact h0))];exact h5 i x hx j y hy
theorem Two.first (h : Two w0 w p ta tb Ca Cb ka pa kb pb aa ac Ta Tb Ya Yb) (hru : RU [1, 2, 3, 4, 13, 15] w w' Tb.ρ Tb'.ρ) (hB : BW w0 w' Tb'.ρ Tb'.P Tb'.gens Tb'.free Tb'.D) (hP : Tb'.P = Tb.P) (hdj : Tb'.D[0]? = Tb.D[0]?)
    (hs:∀ j d' e e',j≠0→Tb'.D[j]?=some d'→e∈d'.A.L→e'∈Ta.d.A.L→e.slot≠e'.slot) (hc:Tb'.free.count true+(Tb'.D.map fun d=>d.A.L.length).sum=Tb'.free.length) :
    MTw w0 w' { Ta with ρ:=fun q=>swp (Tb'.ρ q),gens:=Tb'.gens,free:=Tb'.free,D:=Tb'.D } Ya Ca ka pa:=by
 have hr:RU [1,2,3,6,13,15] w w' Ta.ρ (fun q=>swp (Tb'.ρ q)):=by
  have:=RU.swp hru;have e:Ta.ρ=fun q=>swp (Tb.ρ q):=funext h.ρ
  rw [e];exact this
 refine h.a.carry (BW.swp hB) (h.P.trans hP.symm) hr (by simp) (by simp) ?_ (fun j d' e e' hj=>hs j d' e e' (by rw [← h.ia];exact hj)) hc
 rw [h.ia,hdj,← h.D,← h.ia]
 exact h.a.mf.am.hd
theorem Two.step (h:Two w0 w p ta tb Ca Cb ka pa kb pb aa ac Ta Tb Ya Yb) (hb:MTw w0 w' Tb' Yb' Cb' kb' pb') (hev:TEv w w' Tb Tb'):∃ Ta',Two w0 w' p ta tb Ca Cb' ka pa kb' pb' aa ac Ta' Tb' Ya Yb':=by
 have hru:=hev.ru
 rw [h.ib] at hru
 have hi':Tb'.i=1:=hev.i.trans h.ib
 have hm:=hb.mf.am
 have hf:=h.first hru hm.bw hev.P (hev.dj 0 (by rw [h.ib];omega)) (fun j d' e e' hj hd he he'=>by
  have hjl:=(List.getElem?_eq_some_iff.1 hd).1;have hl2:Tb'.D.length=2:=hev.dl.trans h.l;obtain rfl:j=1:=by omega
  have hdb:=hm.hd;rw [hi',hd] at hdb;injection hdb with hdb;subst hdb
  have h0:Tb'.D[0]?=some Ta.d:=by
   rw [hev.dj 0 (by rw [h.ib];omega),← h.D,← h.ia];exact h.a.mf.am.hd
  exact fun e1=>hm.sep 0 Ta.d e' e (by rw [hi'];omega) h0 he' he e1.symm) hm.cnt
 exact ⟨_,hf,hb,h.ta,hev.t.trans h.tb,by rw [hev.P];exact h.p,h.P.trans hev.P.symm,rfl,rfl,rfl,h.ia,hi',hev.dl.trans h.l,fun _=>rfl,At.ru h.row hru (by simp) h.r0,fun b o m e hne=>by
  obtain ⟨h1,h2⟩:=h.r0 b o m e hne
  exact ⟨Nat.lt_of_lt_of_le h1 hru.size,by rw [hru.role b h1];exact h2⟩⟩
end
section
variable {w0 w w':World} {p ta tb:Nat} {Ca Cb:Cont Str} {ka pa kb pb:Nat} {aa:Option Addr} {ac:Nat} {Ta Tb:TS} {Ya Yb:List Ly}
theorem Two.below (h:Two w0 w p ta tb Ca Cb ka pa kb pb aa ac Ta Tb Ya Yb) (hb:Below w.heap.size w w'):Two w0 w' p ta tb Ca Cb ka pa kb pb aa ac Ta Tb Ya Yb :=
 ⟨h.a.on (h.a.mf.am.below hb),h.b.on (h.b.mf.am.below hb),h.ta,h.tb,h.p,h.P,h.g,h.f,h.D,h.ia,h.ib,h.l,h.ρ,h.row.below hb,fun b o m e hne=>by
  obtain ⟨h1,h2⟩:=h.r0 b o m e hne
  exact ⟨Nat.lt_of_lt_of_le h1 hb.size,h2⟩⟩
theorem Two.bel (h:Two w0 w p ta tb Ca Cb ka pa kb pb aa ac Ta Tb Ya Yb):Below w0.heap.size w0 w:=h.a.mf.am.bw.ro.bel
theorem Two.cnt (h:Two w0 w p ta tb Ca Cb ka pa kb pb aa ac Ta Tb Ya Yb):Tb.free.count true+((flat Ya).length+(flat Yb).length)=Tb.free.length:=by
 have hm:=h.b.mf.am
 have h1:=hm.cnt
 have h2:=hm.hd
 have h3:=h.a.mf.am.hd
 rw [h.ia,h.D] at h3
 rw [h.ib] at h2
 have h4:Tb.D=[Ta.d,Tb.d]:=by
  match hD:Tb.D,h.l with
  | [x,y],_ =>
   rw [hD] at h2 h3;simp at h2 h3;rw [h2,h3]
 rw [h4] at h1
 have e1:=h.a.mf.am.len
 have e2:=hm.len
 rw [h.a.flen] at e1
 rw [h.b.flen] at e2
 simp at h1
 omega
theorem Two.live (h:Two w0 w p ta tb Ca Cb ka pa kb pb aa ac Ta Tb Ya Yb):Calls Tryz.prog 26 #[.pointer (some ⟨p,0,none⟩)] w fun e w'=>e=.returned (.int .i64 (((flat Ya).length+(flat Yb).length:Nat):Int))∧Below w.heap.size w w':=by
 obtain ⟨hp,_,_,_⟩:=h.b.mf.am.bw.ars.pool
 have hc:=h.cnt
 have e:=h.p
 subst e
 refine (pLive_any _ Tb.P.2.1 Tb.P.2.2 Tb.gens Tb.free w hp).mono ?_
 rintro e w' ⟨he,hb⟩
 refine ⟨?_,hb⟩
 rw [he]
 congr 2
 omega
theorem Two.slotsA (h:Two w0 w p ta tb Ca Cb ka pa kb pb aa ac Ta Tb Ya Yb):Calls Tryz.prog 25 #[.pointer (some ⟨ta,0,none⟩)] w fun e w'=>e=.returned (.int .i64 (((flat Ya).length:Nat):Int))∧Below w.heap.size w w':=by
 have:=h.a.mf.am.slotsC
 rw [h.a.flen,h.ta] at this
 exact this
theorem Two.slotsB (h:Two w0 w p ta tb Ca Cb ka pa kb pb aa ac Ta Tb Ya Yb):Calls Tryz.prog 25 #[.pointer (some ⟨tb,0,none⟩)] w fun e w'=>e=.returned (.int .i64 (((flat Yb).length:Nat):Int))∧Below w.heap.size w w':=by
 have:=h.b.mf.am.slotsC
 rw [h.b.flen,h.tb] at this
 exact this
theorem Two.checkB (h:Two w0 w p ta tb Ca Cb ka pa kb pb aa ac Ta Tb Ya Yb) (hk:kb≤1000) (hpt:pb≤100000) (hC:Cb.length≤100000000):Calls Tryz.prog 20 #[.pointer (some ⟨tb,0,none⟩)] w fun e w'=>e=.returned (.bool true)∧Below w.heap.size w w':=by
 have h1:=h.b.size
 have h2:=h.b.yl
 have:=(h.b.tr hk hpt).check (by rw [h.b.flen];omega) (by omega) (by omega)
 rwa [h.tb] at this
theorem Two.put (h : Two w0 w p ta tb Ca Cb ka pa kb pb aa ac Ta Tb Ya Yb) (hk : kb ≤ 1000) (hpt : pb ≤ 100000) (key v : Str) (hks : key.size ≤ 100000) (hC : Cb.length ≤ 1000000000) :
    Calls Tryz.prog 22 #[.pointer (some ⟨tb,0,none⟩),.string key,.string v] w fun e w'=>∃ (old:Str) (had:Bool) (n:Int),e=.returned (.tuple #[.string old,.bool had,.int .i64 n]) ∧
     ∃ Cb' kb' pb' Ta' Tb' Yb',kb'≤kb+1∧pb'≤pb+key.size∧Cb'.length≤Cb.length+1∧Two w0 w' p ta tb Ca Cb' ka pa kb' pb' aa ac Ta' Tb' Ya Yb':=by
 have:=h.b.put hk hpt key v hks hC
 rw [h.tb] at this
 refine this.mono ?_
 rintro e w' (⟨he,T',Y',h1,h2,_⟩ | ⟨he,_,_,h1,h2⟩)
 ·obtain ⟨Ta',h3⟩:=h.step h1 h2
  exact ⟨_,_,_,he,_,_,_,Ta',T',Y',Nat.le_refl _,Nat.le_refl _,by rw [cput_len h.b.ct.srt];split <;> omega,h3⟩
 ·obtain ⟨Ta',h3⟩:=h.step (h.b.on h1) h2
  exact ⟨_,_,_,he,_,_,_,Ta',Tb,Yb,by omega,by omega,by omega,h3⟩
theorem Two.delete (h : Two w0 w p ta tb Ca Cb ka pa kb pb aa ac Ta Tb Ya Yb) (hk : kb ≤ 1000) (hpt : pb ≤ 100000) (key : Str) (hks : key.size ≤ 100000) (hC : Cb.length ≤ 1000000000) :
    Calls Tryz.prog 23 #[.pointer (some ⟨tb,0,none⟩),.string key] w fun e w'=>∃ (old:Str) (had:Bool),e=.returned (.tuple #[.string old,.bool had]) ∧
     ∃ Cb' Ta' Tb' Yb',Cb'.length≤Cb.length∧Two w0 w' p ta tb Ca Cb' ka pa kb pb aa ac Ta' Tb' Ya Yb':=by
 have:=h.b.delete hk hpt key hks hC
 rw [h.tb] at this
 refine this.mono ?_
 rintro e w' ⟨he,T',Y',h1,h2,_⟩
 obtain ⟨Ta',h3⟩:=h.step h1 h2
 exact ⟨_,_,he,_,Ta',T',Y',by rw [(cdel_len h.b.ct.srt key).1];split <;> omega,h3⟩
end
structure TwoG (w0 w:World) (p ta tb:Nat) (Ca:Cont Str) (ka pa:Nat) (aa:Option Addr) (ac:Nat) (Ta Tb:TS) (Ya:List Ly):Prop where
 a:MTw w0 w Ta Ya Ca ka pa
 b:MGn w0 w Tb
 ta:Ta.t=ta
 tb:Tb.t=tb
 p:Tb.P.1=p
 fr:Tb.free.count true+(flat Ya).length=Tb.free.length
 row:At w 2 pcel aa ac Ca
section
variable {w0 w w':World} {p ta tb:Nat} {Ca Cb:Cont Str} {ka pa kb pb:Nat} {aa:Option Addr} {ac:Nat} {Ta Tb:TS} {Ya Yb:List Ly}
theorem TwoG.below (h:TwoG w0 w p ta tb Ca ka pa aa ac Ta Tb Ya) (hb:Below w.heap.size w w'):TwoG w0 w' p ta tb Ca ka pa aa ac Ta Tb Ya :=
 ⟨h.a.on (h.a.mf.am.below hb),h.b.below hb,h.ta,h.tb,h.p,h.fr,h.row.below hb⟩
theorem TwoG.live (h:TwoG w0 w p ta tb Ca ka pa aa ac Ta Tb Ya):Calls Tryz.prog 26 #[.pointer (some ⟨p,0,none⟩)] w fun e w'=>e=.returned (.int .i64 (((flat Ya).length:Nat):Int))∧Below w.heap.size w w':=by
 obtain ⟨hp,_,_,_⟩:=h.b.bw.ars.pool
 have hc:=h.fr
 have e:=h.p
 subst e
 refine (pLive_any _ Tb.P.2.1 Tb.P.2.2 Tb.gens Tb.free w hp).mono ?_
 rintro e w' ⟨he,hb⟩
 refine ⟨?_,hb⟩
 rw [he]
 congr 2
 omega
theorem TwoG.slotsA (h:TwoG w0 w p ta tb Ca ka pa aa ac Ta Tb Ya):Calls Tryz.prog 25 #[.pointer (some ⟨ta,0,none⟩)] w fun e w'=>e=.returned (.int .i64 (((flat Ya).length:Nat):Int))∧Below w.heap.size w w':=by
 have:=h.a.mf.am.slotsC
 rw [h.a.flen,h.ta] at this
 exact this
theorem TwoG.checkA (h:TwoG w0 w p ta tb Ca ka pa aa ac Ta Tb Ya) (hk:ka≤1000) (hpt:pa≤100000) (hC:Ca.length≤100000000):Calls Tryz.prog 20 #[.pointer (some ⟨ta,0,none⟩)] w fun e w'=>e=.returned (.bool true)∧Below w.heap.size w w':=by
 have h1:=h.a.size
 have h2:=h.a.yl
 have:=(h.a.tr hk hpt).check (by rw [h.a.flen];omega) (by omega) (by omega)
 rwa [h.ta] at this
theorem TwoG.allA (h:TwoG w0 w p ta tb Ca ka pa aa ac Ta Tb Ya) (hk:ka≤1000) (hpt:pa≤100000) (hC:Ca.length≤100000):Calls Tryz.prog 30 #[.pointer (some ⟨ta,0,none⟩)] w (AllEnd w Ca):=by
 have:=(h.a.tr hk hpt).all hC fun p hp=>by have:=h.a.keys p hp;omega
 rwa [h.ta] at this
theorem Two.drop (h : Two w0 w p ta tb Ca Cb ka pa kb pb aa ac Ta Tb Ya Yb) (hk : kb ≤ 1000) (hpt : pb ≤ 100000) : Calls Tryz.prog 41 #[.pointer (some ⟨tb, 0, none⟩)] w fun e w' =>
    e=.returned (.tuple #[])∧∃ Ta' Tb',TwoG w0 w' p ta tb Ca ka pa aa ac Ta' Tb' Ya:=by
 have h1:=h.b.size
 have h2:=h.b.yl
 have:=h.b.mf.am.drop hands_ok (by rw [h.b.flen];omega)
 rw [h.tb] at this
 refine this.mono ?_
 rintro e w' ⟨he,T',hG,hev,hc⟩
 refine ⟨he,?_⟩
 have hru:=hev.ru
 rw [h.ib] at hru
 have hi':T'.i=1:=hev.i.trans h.ib
 have hf:=h.first hru hG.bw hev.P (hev.dj 0 (by rw [h.ib];omega)) (fun j d' e e' hj hd he he'=>by
  have hjl:=(List.getElem?_eq_some_iff.1 hd).1;have hl2:T'.D.length=2:=hev.dl.trans h.l;obtain rfl:j=1:=by omega
  have hdb:=hG.hd;rw [hi',hd] at hdb;injection hdb with hdb;rw [hdb,hG.emp] at he
  cases he) hG.cnt
 refine ⟨_,T',hf,hG,h.ta,hev.t.trans h.tb,by rw [hev.P];exact h.p,?_,At.ru h.row hru (by simp) h.r0⟩
 have h3:=h.cnt
 have h4:=hev.fl
 rw [h.b.flen] at hc
 omega
end
section
variable {w0 w1 w:World} {p t c0 k pt:Nat} {C:Cont Str} {Y:List Ly} {aa:Option Addr} {ac:Nat}
theorem Two.new (h : MIs w0 w1 p t C c0 k pt Y) (hb : Below w1.heap.size w1 w) (hroom : (flat Y).length < c0) (hrow : At w 2 pcel aa ac C) (hge : ∀ b o m, aa = some ⟨b, o, m⟩ → C ≠ [] → w1.heap.size ≤ b ∧ b < w.heap.size) :
    Calls Tryz.prog 12 #[.pointer (some ⟨p,0,none⟩)] w fun e w'=>∃ tb,e=.returned (.tuple #[.pointer (some ⟨tb,0,none⟩),.int .i64 0])∧∃ Ta Tb g,Two w0 w' p t tb C [] k pt 0 0 aa ac Ta Tb Y [ly0 g]:=by
 obtain ⟨T,hT1,ht,hp,hfl,hD,hcn⟩:=h.cnt
 have hfar:=hT1.mf.am.bw.ro.far
 have hT:=hT1.on (hT1.mf.am.below hb)
 have ha:=hT.mf.am
 have hi:T.i=0:=by
  have:=(List.getElem?_eq_some_iff.1 ha.hd).1;omega
 have hin:true∈T.free:=List.count_pos_iff.1 (by omega)
 have:=mtNew_some (BW.swp ha.bw) hin ha.cnt
 rw [hp] at this
 refine this.mono ?_
 rintro e w' ⟨Tb,g,he,h1,h2,h3,h4,h5,h6,h7,h8⟩
 rw [hD] at h3 h6 h7
 have hru:RU [1,2,3,4,13,15] w w' (fun q=>swp (T.ρ q)) Tb.ρ:=h6
 have hr:RU [1,2,3,6,13,15] w w' T.ρ (fun q=>swp (Tb.ρ q)):=by
  have:=RU.swp hru;have e:T.ρ=fun q=>swp (swp (T.ρ q)):=funext fun q=>(swp_swp _).symm
  rw [e];exact this
 have hm:=h1.mf.am
 have hd0:Tb.D[0]?=some T.d:=by
  rw [h8 0 (by omega),← hi];exact ha.hd
 have hf:=hT.carry (BW.swp hm.bw) h2.symm hr (by simp) (by simp) (by rw [hi];exact hd0) (fun j d' e e' hj hd he he'=>by
  have hjl:=(List.getElem?_eq_some_iff.1 hd).1;rw [hi] at hj;obtain rfl:j=1:=by omega
  have hdb:=hm.hd;rw [h3,hd] at hdb;injection hdb with hdb;subst hdb
  exact fun e1=>hm.sep 0 T.d e' e (by rw [h3];omega) hd0 he' he e1.symm) hm.cnt
 exact ⟨Tb.t,he,_,Tb,g,hf,h1,ht,rfl,by rw [h2];exact hp,h2.symm,rfl,rfl,rfl,hi,h3,h7,fun _=>rfl,At.ru hrow hr (by simp) (fun b o m e hne=>by
  obtain ⟨h9,h10⟩:=hge b o m e hne
  exact ⟨h10,hfar b h9⟩),fun b o m e hne=>by
  obtain ⟨h9,h10⟩:=hge b o m e hne;refine ⟨Nat.lt_of_lt_of_le h10 hru.size,?_⟩;rw [hru.role b h10]
  show swp (T.ρ b)=0
  rw [hfar b h9]
  rfl⟩
end
open Go.RowKit
set_option maxRecDepth 100000 in
set_option maxHeartbeats 4000000 in
theorem mtFreeLaw_walk (s : Option Addr) (len cap : Nat) (rows : List (List Value)) (s2 : Option Addr) (len2 cap2 : Nat) (rows2 : List (List Value)) (w : World) (hr : IsFlat [.inl .i64, .inr false, .inr false, .inr true] w s len rows) (hr2 : IsFlat [.inl .i64, .inr false, .inr false, .inr true] w s2 len2 rows2) :
    Calls Tryz.prog 9 #[.slice s len cap,.slice s2 len2 cap2] w fun e w'=>e=.returned (.bool true)∧Below w.heap.size w w':=by
 have hlen:len≤maxLen:=by
  rcases hr with ⟨h0,_⟩ | ⟨_,_,_,h1,_⟩
  ·rw [h0];exact Nat.zero_le _
  ·exact h1
 have hlen2:len2≤maxLen:=by
  rcases hr2 with ⟨h0,_⟩ | ⟨_,_,_,h1,_⟩
  ·rw [h0];exact Nat.zero_le _
  ·exact h1
 obtain ⟨L,rfl,hL,hsz⟩:=acts_of_flat hr
 obtain ⟨M2,rfl,hM,hsz2⟩:=acts_of_flat hr2
 clear hr hr2
 have hAw:=qh (awake15_any w)
 have hGr:=qh fun W (hW:Below w.heap.size w W)=>great15_any s cap L W (hL.below hW) hsz hlen
 have hGr2:=qh fun W (hW:Below w.heap.size w W)=>great15_any s2 cap2 M2 W (hM.below hW) hsz2 hlen2
 have hMa:=qh fun W (hW:Below w.heap.size w W) h300 hkb=>made15_any s cap L W (hL.below hW) h300 hkb (fun _=>True) (fun _ _ _=>trivial)
 have hro:=qh hM
 clear hL hlen hlen2 hsz hsz2 hM
 go_enter Tryz.func9,Tryz.ntmps9
 go_wp2_with fail
 refine hAw.out.mono ?_
 clear hAw
 rintro e w1 ⟨rfl,hb1⟩
 go_wp2_with fail
 refine (hGr.out w1 hb1).mono ?_
 clear hGr
 rintro e w2 ⟨rfl | ⟨rfl,h300,hkb⟩,hb2⟩
 ·replace hb2:=qh (hb1.trans (hb2.mono hb1.size))
  go_wp2_with fail;go_ret;exact ⟨rfl,hb2.out⟩
 have hb12:=hb1.trans (hb2.mono hb1.size)
 clear hb1 hb2
 go_wp2_with fail
 refine (hGr2.out w2 hb12).mono ?_
 clear hGr2
 rintro e w3 ⟨rfl | ⟨rfl,h302,hkb2⟩,hb3⟩
 ·replace hb3:=qh (hb12.trans (hb3.mono hb12.size))
  go_wp2_with fail;go_ret;exact ⟨rfl,hb3.out⟩
 have hb13:=hb12.trans (hb3.mono hb12.size)
 have hMd:=qh (hMa.out w3 hb13 h300 hkb)
 replace hb13:=qh hb13
 clear hMa hb12 hb3
 go_wp2_with fail
 refine hMd.out.mono ?_
 clear hMd
 rintro e w4 ⟨p,t,rfl,hT,hCl⟩
 have hC100:(doneC L).length≤100000:=by omega
 have hAll:=qh (hT.all (by omega) (by omega) hC100)
 have hbel4:=qh hT.bel
 obtain ⟨ka,pa,Y,hka,hpa,hT,_,_⟩:=hT
 have hY1:=hT.pos
 have hsz:=(show (flat Y).length≤Y.length+2*ka from by obtain ⟨T,hm,_⟩:=hT;exact hm.size)
 obtain ⟨C,hC⟩:∃ C,C=doneC L:=⟨_,rfl⟩
 rw [← hC] at hAll hC100 hT
 have hroom:Hid ((flat Y).length < 4096):=qh (by omega)
 obtain ⟨na,hna⟩:∃ na,na=(flat Y).length:=⟨_,rfl⟩
 have hnab:na≤4095:=by omega
 have hSl:=qh fun W (hW:Below w4.heap.size w4 W)=>(hT.below hW).slots
 have hLv:=qh fun W (hW:Below w4.heap.size w4 W)=>(hT.below hW).live
 rw [← hna] at hSl hLv
 replace hna:=qh hna
 have hT4:=qh hT
 clear hT hC hCl hY1 hsz
 go_wp2_with fail
 refine hAll.out.mono ?_
 clear hAll
 rintro e w5 ⟨aa,ac,rfl,hra,hb5⟩
 have hge:Hid (∀ b o m,aa=some ⟨b,o,m⟩→C≠[]→w4.heap.size≤b∧b < w5.heap.size):=qh fun b o m e hne=>by
  obtain ⟨x,hx⟩:∃ x,C[0]?=some x:=⟨_,List.getElem?_eq_getElem (List.length_pos_iff.2 hne)⟩;obtain ⟨b2,cap,ev,_,h2,h3,_⟩:=hra.at hx;injection ev with ev _ _;rw [e] at ev;injection ev with ev;injection ev with ev _ _;subst ev;exact ⟨h2,h3⟩
 have hAt:=qh hra.at'
 replace hb5:=qh hb5
 obtain ⟨cl,hcl⟩:∃ cl,cl=C.length:=⟨_,rfl⟩
 rw [← hcl] at hC100 ⊢
 replace hcl:=qh hcl
 clear hra
 go_wp2_with fail
 refine (hLv.out w5 hb5.out).mono ?_
 clear hLv
 rintro e w6 ⟨rfl,hb6⟩
 have hb56:=qh (hb5.out.trans (hb6.mono hb5.out.size))
 have hNw:=qh (Two.new hT4.out hb56.out hroom.out (hAt.out.below hb6) (fun b o m e hne=>by
  obtain ⟨h1,h2⟩:=hge.out b o m e hne
  exact ⟨h1,Nat.lt_of_lt_of_le h2 hb6.size⟩))
 clear hb6 hb5 hAt hge hT4 hSl
 go_wp2_with fail
 refine hNw.out.mono ?_
 clear hNw
 rintro e w7 ⟨tb,rfl,Ta,Tb,g,hT2⟩
 have hwna:IntKind.i64.wrap ((na:Int)+1)=(na:Int)+1:=IntWalk.i64_in _ (by omega)
 have hl0:(flat [ly0 g]).length=1:=rfl
 have hc1:=qh hT2.slotsA
 have hc2:=qh fun W (hW:Below w7.heap.size w7 W)=>(hT2.below hW).live
 rw [hl0] at hc2
 rw [← hna.out] at hc1 hc2
 replace hT2:=qh hT2
 clear hl0
 go_wp2_with fail
 refine hc1.out.mono ?_
 clear hc1
 rintro e w8 ⟨rfl,hb8⟩
 replace hc2:=qh (hc2.out w8 hb8)
 replace hb8:=qh hb8
 have hcst:((na+1:Nat):Int)=(na:Int)+1:=by omega
 rw [hcst] at hc2
 go_wp2_with fail
 refine hc2.out.mono ?_
 clear hc2
 rintro e w9 ⟨rfl,hb9⟩
 have hb89:=hb8.out.trans (hb9.mono hb8.out.size)
 have hT9:=qh (hT2.out.below hb89)
 clear hb9 hb89 hb8 hT2
 have hb03:=qh hb13.out
 clear hb13
 obtain ⟨n,hn⟩:∃ n,n=M2.length:=⟨_,rfl⟩
 rw [← hn] at h302 ⊢
 replace hn:=qh hn
 replace hkb2:=qh hkb2
 go_wp2_with fail
 go_loopg [12] n (fun gk v wr=>∃ k:Nat,gk=n - k∧k≤n∧v=.int .i64 k∧∃ Cb kb' pb' Ta Tb Yb,kb'≤k∧pb'≤kb (M2.take k)∧Cb.length≤k∧Two w3 wr p t tb C Cb ka pa kb' pb' aa ac Ta Tb Y Yb)
 case atStart=>exact ⟨0,rfl,by omega,rfl,[],0,0,Ta,Tb,[ly0 g],Nat.le_refl _,Nat.zero_le _,Nat.le_refl _,hT9.out⟩
 case round =>
  clear hT9;obtain ⟨k,rfl,hk,rfl,Cb,kb',pb',Ta,Tb,Yb,hkb',hpb',hCl,hT⟩:=hrel;by_cases hlt:k < n
  ·
   obtain ⟨x,hx⟩:∃ x,M2[k]?=some x:=⟨_,List.getElem?_eq_getElem (by have:=hn.out;omega)⟩;obtain ⟨b,off,rfl,hbw,hact⟩:=hro.out k x hx;have hkt:=kb_take M2 k hx;have hka2:=kb_le_all M2 (k+1);have hk4:=hkb2.out;have hPu:=qh fun W (hW:Below wr.heap.size wr W)=>(hT.below hW).put (by omega) (by omega) x.2.1 x.2.2.1 (by omega) (by omega)
   have hDe:=qh fun W (hW:Below wr.heap.size wr W)=>(hT.below hW).delete (by omega) (by omega) x.2.1 (by omega) (by omega)
   obtain ⟨g0,g1,g2,g3⟩:=hact.below (hb03.out.trans (hT.bel.mono hb03.out.size));have hT':=qh hT;replace hkt:=qh hkt;have hbw2:=block_lt_of_cell g0;clear hT hact hka2 hk4;obtain ⟨dd,x1,x2,aft⟩:=x;simp only at g0 g1 g2 g3 hPu hDe;have hA2:(k:Int) < (n:Int):=by omega
   have hA3:(0:Int)≤(k:Int):=by omega
   have hw1:IntKind.i64.wrap ((k:Int)+1)=(k:Int)+1:=IntWalk.i64_in _ (by omega);have hkt2:Hid (kb (M2.take (k+1))=kb (M2.take k)+x1.size):=qh hkt.out;clear hkt;replace hx:=qh hx;by_cases h0:dd=0
   ·subst h0
    go_upto_region 18 with fail
    go_region_with (go_at_call 22;refine (hPu.out _ (Below.refl _ _).drew).mono ?_;rintro z w5 ⟨old,had,nn,rfl,Cb5,k5,p5,Ta5,Tb5,Yb5,j1,j2,j3,hT5⟩;replace hT5:=qh hT5)
    all_goals
     go_wp2_with fail;go_roundg (n - (k+1))
     case rel=>exact ⟨k+1,rfl,by omega,by go_num,Cb5,k5,p5,Ta5,Tb5,Yb5,by omega,by rw [hkt2.out];omega,by omega,hT5.out⟩
     case measure=>omega
   ·have h0b:(dd == 0)=false:=by simpa using h0
    by_cases h1:dd=1
    ·subst h1
     replace h0:=qh h0;go_wp2_with fail;refine (hDe.out _ (Below.refl _ _)).mono ?_;rintro z w5 ⟨old,had,rfl,Cb5,Ta5,Tb5,Yb5,j3,hT5⟩;replace hT5:=qh hT5;go_wp2_with fail;go_roundg (n - (k+1))
     case rel=>exact ⟨k+1,rfl,by omega,by go_num,Cb5,kb',pb',Ta5,Tb5,Yb5,by omega,by rw [hkt2.out];omega,by omega,hT5.out⟩
     case measure=>omega
    ·have h1b:(dd == 1)=false:=by simpa using h1
     replace h0:=qh h0;replace h1:=qh h1;go_wp2_with fail;go_roundg (n - (k+1))
     case rel=>exact ⟨k+1,rfl,by omega,by go_num,Cb,kb',pb',Ta,Tb,Yb,by omega,by rw [hkt2.out];omega,by omega,hT'.out⟩
     case measure=>omega
  ·obtain rfl:n=k:=by omega
   have hk4:=hkb2.out;have hM2:M2.take n=M2:=List.take_of_length_le (by have:=hn.out;omega);rw [hM2] at hpb';have hcnt:=hT.cnt;have hfl:Tb.free.length=4096∨True:=.inr trivial;obtain ⟨nb,hnb⟩:∃ nb,nb=(flat Yb).length:=⟨_,rfl⟩;have hsz1:=hT.b.size;have hsz2:=hT.b.yl;have hnb2:nb≤100000:=by omega
   have hCk:=qh fun W (hW:Below wr.heap.size wr W)=>(hT.below hW).checkB (by omega) (by omega) (by omega)
   have hDr:=qh fun W (hW:Below wr.heap.size wr W)=>(hT.below hW).drop (by omega) (by omega)
   have hc1:=qh hT.live;have hc2:=qh fun W (hW:Below wr.heap.size wr W)=>(hT.below hW).slotsA
   have hc3:=qh fun W (hW:Below wr.heap.size wr W)=>(hT.below hW).slotsB
   rw [← hnb,← hna.out] at hc1;rw [← hna.out] at hc2;rw [← hnb] at hc3
   have hwn:IntKind.i64.wrap ((na:Int)+(nb:Int))=((na+nb:Nat):Int):=by
    rw [show (na:Int)+(nb:Int)=((na+nb:Nat):Int) by omega];exact IntWalk.i64_in _ (by omega)
   replace hna:=qh hna.out;clear hT hcnt hfl hsz1 hsz2 hnb;go_wp2_with fail;refine hc1.out.mono ?_;clear hc1;rintro e w10 ⟨rfl,hb10⟩;replace hc2:=qh (hc2.out w10 hb10);replace hb10:=qh hb10;go_wp2_with fail;refine hc2.out.mono ?_;clear hc2;rintro e w11 ⟨rfl,hb11⟩;replace hb11:=qh (hb10.out.trans (hb11.mono hb10.out.size));replace hc3:=qh (hc3.out w11 hb11.out);clear hb10;go_wp2_with fail;refine hc3.out.mono ?_;clear hc3;rintro e w12 ⟨rfl,hb12⟩;replace hb12:=qh (hb11.out.trans (hb12.mono hb11.out.size));replace hCk:=qh (hCk.out w12 hb12.out);clear hb11;go_wp2_with fail;refine hCk.out.mono ?_;clear hCk;rintro e w13 ⟨rfl,hb13⟩;replace hb13:=qh (hb12.out.trans (hb13.mono hb12.out.size));replace hDr:=qh (hDr.out w13 hb13.out);clear hb12;go_wp2_with fail;refine hDr.out.mono ?_;clear hDr;rintro e w14 ⟨rfl,Ta9,Tb9,hG⟩;have htb9:=hG.tb;have hGd:=qh fun W (hW:Below w14.heap.size w14 W)=>(hG.below hW).b.drop
   have hGp:=qh fun W (hW:Below w14.heap.size w14 W)=>(hG.below hW).b.put ⟨#[97]⟩ ⟨#[98]⟩
   have hGn:=qh fun W (hW:Below w14.heap.size w14 W)=>(hG.below hW).b.len
   have hGs:=qh fun W (hW:Below w14.heap.size w14 W)=>(hG.below hW).b.slots
   have hGl:=qh fun W (hW:Below w14.heap.size w14 W)=>(hG.below hW).live
   have hGa:=qh fun W (hW:Below w14.heap.size w14 W)=>(hG.below hW).slotsA
   have hGc:=qh fun W (hW:Below w14.heap.size w14 W)=>(hG.below hW).checkA (by omega) (by omega) (by have:=hcl.out;omega)
   have hGe:=qh fun W (hW:Below w14.heap.size w14 W)=>(hG.below hW).allA (by omega) (by omega) (by have:=hcl.out;omega)
   have hGr:=qh fun W (hW:Below w14.heap.size w14 W)=>(hG.below hW).row
   rw [htb9] at hGd hGp hGn hGs;rw [← hna.out] at hGl hGa;have hbG:=qh (hb03.out.trans (hG.a.mf.am.bw.ro.bel.mono hb03.out.size));clear hG hb13 htb9;have hd1:=qh (hGd.out w14 (Below.refl _ _));clear hGd;go_wp2_with fail;refine hd1.out.mono ?_;clear hd1;rintro e w15 ⟨rfl,rfl⟩;have hp1:=qh (hGp.out w14 (Below.refl _ _));clear hGp;go_wp2_with fail;refine hp1.out.mono ?_;clear hp1;rintro e w16 ⟨rfl,hb16⟩;have hq1:=qh (hGn.out w16 hb16);have hq2:=qh (hGs.out w16 hb16);replace hb16:=qh hb16;clear hGn hGs;go_wp2_with fail;refine hq1.out.mono ?_;clear hq1;rintro e w17 ⟨rfl,rfl⟩;go_wp2_with fail;refine hq2.out.mono ?_;clear hq2;rintro e w18 ⟨rfl,hb18⟩;replace hb18:=qh (hb16.out.trans (hb18.mono hb16.out.size));have hq3:=qh (hGl.out w18 hb18.out);clear hb16 hGl;go_wp2_with fail;refine hq3.out.mono ?_;clear hq3;rintro e w19 ⟨rfl,hb19⟩;replace hb19:=qh (hb18.out.trans (hb19.mono hb18.out.size));have hq4:=qh (hGa.out w19 hb19.out);clear hb18 hGa;go_wp2_with fail;refine hq4.out.mono ?_;clear hq4;rintro e w20 ⟨rfl,hb20⟩;replace hb20:=qh (hb19.out.trans (hb20.mono hb19.out.size));have hq5:=qh (hGc.out w20 hb20.out);clear hb19 hGc;go_wp2_with fail;refine hq5.out.mono ?_;clear hq5;rintro e w21 ⟨rfl,hb21⟩;replace hb21:=qh (hb20.out.trans (hb21.mono hb20.out.size));have hq6:=qh (hGe.out w21 hb21.out);unfold AllEnd at hq6;rw [← hcl.out] at hq6;clear hb20 hGe;go_wp2_with fail;refine hq6.out.mono ?_;clear hq6
   rintro e w22 ⟨a2,c2,rfl,hr2,hb22⟩;replace hb22:=qh (hb21.out.trans (hb22.mono hb21.out.size));have hA22:=hGr.out w22 hb22.out;rw [hcl.out] at hr2;have hpr:=pairs15_any a2 aa c2 ac C w22 hr2.at' hA22 (by have:=hcl.out;omega);rw [← hcl.out] at hpr;replace hpr:=qh hpr;clear hr2 hA22 hb21 hGr;go_wp2_with fail;refine hpr.out.mono ?_;clear hpr;rintro e w23 ⟨rfl,hb23⟩;replace hb23:=qh (hbG.out.trans ((hb22.out.trans (hb23.mono hb22.out.size)).mono hbG.out.size));go_wp2_with fail;go_ret;exact ⟨by simp,hb23.out⟩
end Go.Proofs.YtbdealmkmpnpoaaGreat.M
namespace Go.Proofs.YtbdealmkmpnpoaaGreat.masstreeFree
open Go.ChangeShapes Go.WideShapes Go.ChangeAt Go.RowKit
open Go.ChangeMaps (open_string shut_string)
set_option linter.unusedVariables false
theorem own:ownKnob Tryz.prog.godebug=none:=by kernel_rfl
theorem laidOut:laidOutB Tryz.prog=true:=by kernel_rfl
set_option maxRecDepth 100000 in
theorem lifted (os : Os) (started : os.Started) (H : Type) (enc : TypeId × Value → H) :
    ReturnsInHanded {} Tryz.checked os 9 .any (Rows.masstreeFreeSpec.pre6 enc Tryz.prog Tryz.f9 Rows.masstreeFreeRow.domain false) (Rows.masstreeFreeSpec.post enc Tryz.prog Tryz.f9 false true false false):=by
 refine returnsInHanded_of_change (C:=Tryz.checked) own started (by kernel_rfl) Tryz.func9
  (ChangeSpec.witness6 (enc:=enc) (C:=Tryz.checked) false ⟨#[],#[.slice none 0 0,.slice none 0 0],[]⟩ 8 (by kernel_rfl) (by kernel_rfl) (by kernel_rfl) (by kernel_rfl)) ?_
 intro W base args ds gs before hval0 hW hcnd _
 have hval:∀ (j:Nat) t v,Tryz.f9.params[j]?=some t→args[j]?=some v→Value.okWide Tryz.prog W .any base t v:=hval0
 have hW':=hW
 obtain ⟨p,q,hA0,hV,rfl,hfz,hnd⟩:=hW
 have hA:DataW.TrodAll enc Tryz.prog W 0 (fun _=>true) true Tryz.f9.params.toList args.toList ds p:=hA0
 rw [Tryz.params9] at hA hval
 obtain ⟨v0,vs0,d0,ds0,p0,q0,hargs,rfl,rfl,h0,r0⟩:=trodAll_cons hA
 obtain ⟨v1,vs1,d1,ds1,p1,q1,rfl,rfl,rfl,h1,r1⟩:=trodAll_cons r0
 obtain ⟨rfl,rfl,rfl⟩:=trodAll_nil r1
 obtain rfl:args=#[v0,v1]:=by cases args;simp_all
 obtain ⟨rfl,rfl⟩:=trodVars_none hV
 obtain ⟨a0,len0,cap0,rfl⟩:=okWide_slice Tryz.underlying48 (hval 0 48 v0 rfl rfl)
 have k0:=h0
 have lt0:∀ x∈p0,x.block < W.heap.size:=by obtain ⟨m,hm⟩:=k0;exact DataW.trod_lt m _ _ _ hm
 obtain ⟨z0,w0⟩:∃ zs,IsFlat [.inl .i64,.inr false,.inr false,.inr true] W a0 len0 zs:=by
  obtain ⟨fuel,hf⟩:=h0;exact isFlat_of (n:=9) Tryz.underlying48 (by kernel_rfl) (by kernel_rfl) (by decide) hf
 obtain ⟨a1,len1,cap1,rfl⟩:=okWide_slice Tryz.underlying48 (hval 1 48 v1 rfl rfl)
 have k1:=h1
 have lt1:∀ x∈p1,x.block < W.heap.size:=by obtain ⟨m,hm⟩:=k1;exact DataW.trod_lt m _ _ _ hm
 obtain ⟨z1,w1⟩:∃ zs,IsFlat [.inl .i64,.inr false,.inr false,.inr true] W a1 len1 zs:=by
  obtain ⟨fuel,hf⟩:=h1;exact isFlat_of (n:=9) Tryz.underlying48 (by kernel_rfl) (by kernel_rfl) (by decide) hf
 clear hA0 hval0
 refine (M.mtFreeLaw_walk a0 len0 cap0 z0 a1 len1 cap1 z1 W w0 w1).mono fun e W' ⟨he,bel⟩=>?_
 subst he
 exact ⟨_,rfl,_,_,_,[],_,[],hW',trodAll_mk1 (shut_bool Tryz.underlying4 _),(trodAll_cons_mk (Below.trod laidOut (by kernel_rfl) (of_decide_eq_true (by kernel_rfl)) k0 bel lt0) (trodAll_cons_mk (Below.trod laidOut (by kernel_rfl) (of_decide_eq_true (by kernel_rfl)) k1 bel lt1) trodAll_mk0)),rfl,bel.frame _,fun h=>by cases h⟩
theorem over:Rows.masstreeFreeRow.holds Tryz.pinned (OpenSpec.ofChange Rows.masstreeFreeSpec) :=
 OpenClaim.holds_of_wide 9 Tryz.f9 rfl rfl rfl rfl rfl rfl rfl ⟨rfl,rfl,rfl,rfl,rfl⟩ rfl rfl rfl rfl rfl (by kernel_rfl) Tryz.func9 (by kernel_rfl)
  (of_decide_eq_true (by kernel_rfl)) (by unfold Func.isWrapper;first | (rw [if_pos (by decide +kernel)];kernel_rfl) | (rw [if_neg (by decide +kernel)];exact ⟨rfl,rfl⟩))
  (fun os started H enc _=>lifted os started H enc)
theorem proved:Rows.MasstreeFreeSaid:=over
#print axioms proved
end Go.Proofs.YtbdealmkmpnpoaaGreat.masstreeFree
