import Derived.Lib.SliceRun
import Derived.Deep.RegionLaw
import Derived.Laws.MakeOwn
import Derived.Test.YtbdealmkmpnpoaaGreatQk01
import Derived.Test.YtbdealmkmpnpoaaGreatQk02
import Derived.Test.YtbdealmkmpnpoaaGreatQk03
import Derived.Test.YtbdealmkmpnpoaaGreatQk04
import Derived.Test.YtbdealmkmpnpoaaGreatQk05
import Derived.Test.YtbdealmkmpnpoaaGreatQk06
import Derived.Test.YtbdealmkmpnpoaaGreatQk07
import Derived.Test.YtbdealmkmpnpoaaGreatQk08
set_option linter.all false
namespace Go.Proofs.YtbdealmkmpnpoaaGreat.M
open Go.RowKit
set_option maxRecDepth 100000 in
set_option maxHeartbeats 2000000 in
theorem mtLook_gone {w : World} {t A : Nat} (c1 : w.cell? ⟨t, 1, none⟩ = some (.pointer (some ⟨A, 0, none⟩))) (g : Hd)
    (hgn:Hid (∀ W,Below w.heap.size w W→Calls Tryz.prog 62 #[.pointer (some ⟨A,0,none⟩),hV g] W fun y W'=>y=.returned (.tuple #[.pointer none,.bool false])∧Below W.heap.size W W')) :
    Calls Tryz.prog 93 #[.pointer (some ⟨t,0,none⟩),hV g,.nilFunc] w fun e w'=>Below w.heap.size w w'∧e=.returned (.tuple #[zMn,.bool false]):=by
 have hq:=block_lt_of_cell c1
 obtain ⟨hh0,hr0⟩:=heap_two w (.cells #[.int .i64 g.1,.int .u64 g.2] 71) (.cells Tryz.zeroCells100 100)
 have hb0:=below_two w (.cells #[.int .i64 g.1,.int .u64 g.2] 71) (.cells Tryz.zeroCells100 100)
 obtain ⟨g1,g2⟩:=g
 have hRBw:Hid (w.heap.size≤w.heap.size+1):=qh (by omega)
 obtain ⟨W0,hW0⟩:∃ W,W=(w.alloc (.cells #[.int .i64 g1,.int .u64 g2] 71)).alloc (.cells Tryz.zeroCells100 100):=⟨_,rfl⟩
 simp only at hh0 hr0 hb0
 rw [← hW0] at hh0 hr0 hb0
 have c1':W0.cell? ⟨t,1,none⟩=some (.pointer (some ⟨A,0,none⟩)):=by rw [World.cell?_of_block (hb0.block t hq)];exact c1
 have hq':=Nat.lt_of_lt_of_le hq hb0.size
 replace hW0:=qh hW0
 replace hb0:=qh hb0
 replace hh0:=qh hh0
 replace hr0:=qh hr0
 replace c1:=qh c1
 unfold hV at hgn ⊢
 simp only at hgn ⊢
 have hnf:∀ W,(binOp .neq 1 .nilFunc .nilFunc).run Tryz.prog W=.ok (.bool false) W:=fun W=>run_neq_nil_nilFunc W 1 Tryz.underlying1
 go_enter Tryz.func93,Tryz.ntmps93
 go_upto_region 3 with fail
 rw [← hW0.out]
 obtain ⟨HB,hHB⟩:∃ b,b=w.heap.size:=⟨_,rfl⟩
 obtain ⟨RB,hRB⟩:∃ b,b=w.heap.size+1:=⟨_,rfl⟩
 replace hRBw:=hRBw.out
 rw [← hRB] at hRBw hr0 ⊢
 replace hRBw:=qh hRBw
 replace hRB:=qh hRB
 have hHBw:Hid (∀ k,k < HB→k < w.heap.size):=qh fun k hk=>by omega
 rw [← hHB] at hh0 ⊢
 replace hHB:=qh hHB
 obtain ⟨cz,hcz⟩:∃ c,c=Value.bool false::(zlc++zic):=⟨_,rfl⟩
 have hbl:(Tryz.prog).built 100 []=some cz.toArray:=by rw [hcz];kernel_rfl
 have hzl:cz.length=120:=by rw [hcz];exact zMn_len
 have hzo:cz.toArray.all (·.oneCell')=true:=by rw [hcz];exact zMn_one
 have hG:=qh fun W hW=>hgn.out W hW
 replace hbl:=qh hbl
 replace hzl:=qh hzl
 replace hzo:=qh hzo
 replace hcz:=qh hcz
 clear hgn
 refine wp_region_held_drew (S:=fun W'=>W'.cell? ⟨t,1,none⟩=some (.pointer (some ⟨A,0,none⟩))∧W'.heap[HB]?=some (.cells #[.int .i64 g1,.int .u64 g2] 71)) rfl ⟨c1',hh0.out⟩ (fun hHeld=>?_)
 refine tkL 0 ?_
 refine tkL 1 ?_
 refine tkL 2 ?_
 refine tkL 3 ?_ (hz:=by intro w hSw;(try dsimp only at hSw);have hp:=hSw.1;exact zf)
 refine tkL 4 ?_ (hz:=by intro w hSw;(try dsimp only at hSw);obtain ⟨e0,e1,-⟩:=box2 hSw.2;exact zf)
 refine rdL 5 ?_
 intro K hK
 go_simp
 go_at_call 62
 refine (hG.out _ hb0.out.drew).mono ?_
 rintro z w5 ⟨rfl,hb⟩
 have hb5:=qh (hb0.out.drew.trans (hb.mono hb0.out.drew.size))
 have hS1:w5.cell? ⟨t,1,none⟩=some (.pointer (some ⟨A,0,none⟩))∧w5.heap[HB]?=some (.cells #[.int .i64 g1,.int .u64 g2] 71):=⟨by rw [World.cell?_of_block (hb.block t hq')];exact hHeld.1,Below.heap' hb hHeld.2⟩
 have hr5:=qh (Below.heap' hb (show W0.drew.heap[RB]?=_ from hr0.out))
 clear hb
 go_wp2_with fail
 refine hK.out _ _ hS1 (fun _=>?_)
 clear hHeld hK K
 have hHeld:=hS1
 clear hS1
 try simp only [Act.put,zs1,zs2,zs3]
 refine tkL 6 ?_
 refine tkL 7 ?_
 refine tkL 8 ?_
 refine tkL 9 ?_
 refine tkL 10 ?_
 refine wpAnyH_done (by kernel_rfl) ?_ _
 try simp only [Exit.then]
 clear hHeld
 have hrb:=hb_wholeA (vs:=cz) hr5.out (by rw [zMn_size,hzl.out])
 have hth:=qh (hb_thereA (n:=(cz).toArray.size) (o:=0) hr5.out (by rw [zMn_size,List.size_toArray,hzl.out];omega))
 have hld:=qh (run_loadVar_mid (P:=Tryz.prog) _ RB 0 100 (cz) _ (range_of_heap hrb) Tryz.underlying100 rfl (by rw [hzl.out];kernel_rfl))
 have hfb:Hid (Below w.heap.size w (w5.setCells RB 0 (cz))):=qh (hb5.out.trans ((hb_upd w5 RB 0 (cz)).below hb5.out.size (by simp only [List.mem_singleton];rintro k rfl;exact hRBw.out)))
 clear hrb
 have hrl:=heap_lt hr5.out
 replace hr5:=qh hr5
 have hfin:Hid (Below w.heap.size w (w5.setCells RB 0 cz)∧Ending.returned (.tuple #[.agg cz.toArray,.bool false])=Ending.returned (.tuple #[zMn,.bool false])):=qh ⟨hfb.out,by rw [hcz.out]⟩
 go_wp2_with (first
  | refine wpList_built rfl 100 #[] rfl [] rfl cz.toArray hbl.out ?_
  | refine wpList_store_mid rfl 100 (.tmp 6) (.tmp 25) rfl RB 0 cz.toArray (by rfl) (by rfl) hth.out (by rw [List.size_toArray,hzl.out];kernel_rfl) hzo.out ?_)
 refine bodyPost_ret (v:=.tuple #[.agg cz.toArray,.bool false]) (by simp [results,Tryz.results93,asAddr,hld.out]) rfl hfin.out
open Go.RowKit
def HandsM (L:List AEnt) (w:World) (z:Ending) (w':World):Prop :=
 ∃ a c H,z=.returned (.slice a H.length c)∧Row w.heap.size 71 2 hcel w' (.slice a H.length c) H∧H.Perm (L.map fun x=>((x.slot:Int),x.gen))∧Below w.heap.size w w'
def HandsOK:Prop:=∀ (A:AR) (p:Option Addr) (W:World),AMnode.AG W [] p A→Born AEnt.born A.L A.c→A.L.length≤100000→Calls Tryz.prog 84 #[.pointer (some ⟨A.a,0,none⟩)] W (HandsM A.L W)
structure TEr (w w':World) (T T':TS):Prop where
 ru:RU [1,2,3,4,10+3*T.i,12+3*T.i] w w' T.ρ T'.ρ
 P:T'.P=T.P
 i:T'.i=T.i
 t:T'.t=T.t
 a:T'.d.A.a=T.d.A.a
 dl:T'.D.length=T.D.length
 dj:∀ j,j≠T.i→T'.D[j]?=T.D[j]?
 fl:T'.free.length=T.free.length
def fdel (F:NF) (h:Hd):NF:=F.filter fun x=>x.1≠h
theorem mem_fdel {F:NF} {h:Hd} {z:Hd×ND}:z∈fdel F h↔z.1≠h∧z∈F:=by
 unfold fdel
 rw [List.mem_filter]
 simp [and_comm]
theorem fdel_len {F:NF} (hn:(F.map (·.1)).Nodup) {x:Hd×ND} (hx:x∈F):(fdel F x.1).length+1=F.length:=by
 induction F with
 | nil=>cases hx
 | cons a L ih =>
  rw [List.map_cons,List.nodup_cons] at hn;unfold fdel;rcases List.mem_cons.1 hx with rfl | hm
  ·rw [List.filter_cons_of_neg (by simp), filter_all (fun y hy => by
     have:y.1≠x.1:=fun hh=>hn.1 (by rw [← hh];exact List.mem_map_of_mem hy)
     simpa using this)]
   rfl
  ·have hne:a.1≠x.1:=fun hh=>hn.1 (by rw [hh];exact List.mem_map_of_mem hm)
   rw [List.filter_cons_of_pos (by simpa using hne)];simp only [List.length_cons];have:=ih hn.2 hm;unfold fdel at this;rw [this]
theorem slots_len {L:List AEnt} (hn:(L.map AEnt.slot).Nodup) {e:AEnt} (he:e∈L):(L.filter fun y=>y.slot≠e.slot).length+1=L.length:=by
 induction L with
 | nil=>cases he
 | cons a L ih =>
  rw [List.map_cons,List.nodup_cons] at hn;rcases List.mem_cons.1 he with rfl | hm
  ·rw [List.filter_cons_of_neg (by simp), filter_all (fun y hy => by
     have:y.slot≠e.slot:=fun hh=>hn.1 (by rw [← hh];exact List.mem_map_of_mem hy)
     simpa using this)]
   rfl
  ·have hne:a.slot≠e.slot:=fun hh=>hn.1 (by rw [hh];exact List.mem_map_of_mem hm)
   rw [List.filter_cons_of_pos (by simpa using hne)];simp only [List.length_cons];rw [ih hn.2 hm]
theorem count_set_true (free:List Bool) (i:Nat) (hi:free[i]?=some false):(free.set i true).count true=free.count true+1:=by
 obtain ⟨hlt,he⟩:=List.getElem?_eq_some_iff.1 hi
 have:=List.count_set (a:=true) (b:=true) (l:=free) hlt
 rw [this,he]
 simp
section
variable {w0 w w' w1 w2:World} {T T1 T2:TS} {x:Hd×ND}
theorem TEr.refl (h:AM w0 w T):TEr w w T T:=⟨(RU.refl (rs:=[]) h.bw.ro).mono (by simp),rfl,rfl,rfl,rfl,rfl,fun _ _=>rfl,rfl⟩
theorem TEr.trans (h:TEr w w1 T T1) (k:TEr w1 w2 T1 T2):TEr w w2 T T2:=by
 have hr:=k.ru
 rw [h.i] at hr
 exact ⟨h.ru.trans hr,k.P.trans h.P,k.i.trans h.i,k.t.trans h.t,k.a.trans h.a,k.dl.trans h.dl,fun j hj=>(k.dj j (by rw [h.i];exact hj)).trans (h.dj j hj),k.fl.trans h.fl⟩
theorem TEr.below (h:AM w0 w T) (hb:Below w.heap.size w w'):TEr w w' T T:=⟨(RU.below (rs:=[]) h.bw.ro hb).mono (by simp),rfl,rfl,rfl,rfl,rfl,fun _ _=>rfl,rfl⟩
theorem TEr.cell1 (h:TEr w w' T T1) (ha:AM w0 w' T1):w'.cell? ⟨T.t,1,none⟩=some (.pointer (some ⟨T.d.A.a,0,none⟩)):=by
 have:=ha.cells.2.1
 rwa [h.t,h.a] at this
theorem AM.release (h : AM w0 w T) (hx : x ∈ T.F) :
    Calls Tryz.prog 85 #[.pointer (some ⟨T.d.A.a,0,none⟩),hV x.1] w fun y w'=>y=.returned (.bool true)∧∃ T',AM w0 w' T'∧TEr w w' T T'∧T'.F=fdel T.F x.1∧T'.free.count true=T.free.count true+1:=by
 obtain ⟨e,e1,e2,e3,e4⟩:=h.ent x hx
 obtain ⟨n1,n3,n4,n5,n6,n7⟩:=h.bw.ars.neq h.hd
 have hA:=h.bw.ars.gR h.hd
 rw [h.ta,h.tc] at hA
 have hp:=h.bw.ars.pool.1
 have hfr:=((h.bw.ars.ar T.i T.d h.hd).th e e1).2
 have hlt:T.i < T.D.length:=(List.getElem?_eq_some_iff.1 h.hd).1
 refine (AMnode.gRelease_some T.d.A T.P.1 T.P.2.1 T.P.2.2 [T.P.1,T.P.2.1,T.P.2.2,T.d.A.m] T.gens T.free x.1.1 x.1.2 e w hA hp e1 e2.symm e3 hfr n1 n3 n4 n5 n6 n7 (by simp)).mono ?_
 rintro y w' ⟨hy,hu,hp',hA'⟩
 refine ⟨hy,?_⟩
 obtain ⟨a1,a2⟩:=h.bw.ars.release h.bw.ro h.hd e1 (fun j d' y hj hd' hy=>h.sep j d' y e hj hd' hy e1) hu hp' (by rw [h.ta,h.tc];exact hA')
 have hll:=slots_len h.slots e1
 have hfl:=fdel_len h.ndf hx
 refine ⟨{ T with gens:=T.gens.set e.slot (IntKind.u64.wrap (T.gens.getD e.slot 0+1)),free:=T.free.set e.slot true,D:=T.D.set T.i { T.d with A:={ T.d.A with L:=T.d.A.L.filter fun y=>y.slot≠e.slot } },d:={ T.d with A:={ T.d.A with L:=T.d.A.L.filter fun y=>y.slot≠e.slot } },F:=fdel T.F x.1 },⟨⟨h.bw.ro.step a2 (by simp;omega),a1⟩,by simp [hlt],h.ta,h.tc,h.rol,a2.heap h.blk (by rw [h.rol];simp;omega),?_,?_,?_,?_,?_,?_⟩,⟨a2.mono (by simp),rfl,rfl,rfl,rfl,by simp,fun j hj=>?_,by simp⟩,rfl,count_set_true _ _ hfr⟩
 ·intro z hz
  obtain ⟨z1,z2⟩:=mem_fdel.1 hz;obtain ⟨y,y1,y2,y3,y4⟩:=h.ent z z2;refine ⟨y,List.mem_filter.2 ⟨y1,?_⟩,y2,y3,y4⟩
  have:y.slot≠e.slot:=fun hh=>by
   have:=slot_uniq h.slots y1 e1 hh;subst this;exact z1 (Prod.ext (by rw [← y2,e2]) (by rw [← y3,e3]))
  simpa using this
 ·intro z hz
  exact (h.ok z (mem_fdel.1 hz).2).ru a2 (by simp;omega)
 ·exact h.ndf.sublist (List.Sublist.map _ List.filter_sublist)
 ·show (T.d.A.L.filter fun y=>y.slot≠e.slot).length=(fdel T.F x.1).length
  have:=h.len;omega
 ·intro j d' y y' hj hd' hy hy'
  have hd'':(T.D.set T.i { T.d with A:={ T.d.A with L:=T.d.A.L.filter fun y=>y.slot≠e.slot } })[j]?=some d':=hd';rcases get_set hd'' with ⟨hh,_⟩ | ⟨_,hd'⟩
  ·exact absurd hh.symm hj
  ·exact h.sep j d' y y' hj hd' hy (List.mem_filter.1 hy').1
 ·have:=sum_set (d':={ T.d with A:={ T.d.A with L:=T.d.A.L.filter fun y=>y.slot≠e.slot } }) h.hd
  have hc:=h.cnt;have h2:=count_set_true T.free e.slot hfr;simp only [List.length_set]
  show (T.free.set e.slot true).count true+((T.D.set T.i _).map fun d=>d.A.L.length).sum=T.free.length
  generalize ((T.D.set T.i _).map fun d=>d.A.L.length).sum=z at this ⊢;simp only at this;omega
 ·exact List.getElem?_set_ne (fun hh=>hj hh.symm)
structure MGn (w0 w:World) (T:TS):Prop where
 bw:BW w0 w T.ρ T.P T.gens T.free T.D
 hd:T.D[T.i]?=some T.d
 ta:T.d.ta=162
 tc:T.d.tc=192
 rol:T.ρ T.t=4
 blk:∃ r1 r2,w.heap[T.t]?=some (.cells #[.pointer (some ⟨T.P.1,0,none⟩),.pointer (some ⟨T.d.A.a,0,none⟩),.int .i64 r1,.int .u64 r2,.int .i64 0,.int .i64 0,.bool true] 73)
 emp:T.d.A.L=[]
 cnt:T.free.count true+(T.D.map fun d=>d.A.L.length).sum=T.free.length
def DropEnd (w0 w:World) (T:TS) (e:Ending) (w':World):Prop :=
 e=.returned (.tuple #[])∧∃ T',MGn w0 w' T'∧TEr w w' T T'∧T'.free.count true=T.free.count true+T.F.length
theorem hand_node (h:AM w0 w T) {g:Hd} (hg:g∈T.d.A.L.map fun x=>((x.slot:Int),x.gen)):∃ x,x∈T.F∧x.1=g:=by
 obtain ⟨e,he,rfl⟩:=List.mem_map.1 hg
 obtain ⟨x,hx,h2,h3⟩:=h.node he
 exact ⟨x,hx,Prod.ext h2.symm h3.symm⟩
theorem hands_nodup (h:AM w0 w T):(T.d.A.L.map fun x=>((x.slot:Int),x.gen)).Nodup:=by
 have h1:=h.slots
 unfold List.Nodup at h1 ⊢
 rw [List.pairwise_map] at h1 ⊢
 exact h1.imp fun hab e=>hab (by injection e with e _;omega)
set_option maxRecDepth 100000 in
set_option maxHeartbeats 4000000 in
theorem AM.drop (hH:HandsOK) (h:AM w0 w T) (hfb:T.F.length≤100000):Calls Tryz.prog 41 #[.pointer (some ⟨T.t,0,none⟩)] w (DropEnd w0 w T):=by
 have hfl:=h.len
 have hHa:=hH T.d.A (some ⟨T.P.1,0,none⟩) w (h.bw.ag h.hd h.ta h.tc) (h.bw.ars.ar T.i T.d h.hd).bn (by omega)
 obtain ⟨_,c1,_,_,c4,c5,c6,hq⟩:=h.cells
 have hO:=none_ok c1
 have hnd:=hands_nodup h
 have hno:=fun g (hg:g∈T.d.A.L.map fun x=>((x.slot:Int),x.gen))=>hand_node h hg
 have hlh:(T.d.A.L.map fun x=>((x.slot:Int),x.gen)).length=T.F.length:=by rw [List.length_map];exact hfl
 obtain ⟨H0,hH0⟩:∃ H,H=T.d.A.L.map fun x=>((x.slot:Int),x.gen):=⟨_,rfl⟩
 unfold HandsM at hHa
 rw [← hH0] at hHa hnd hno hlh
 replace hH0:=qh hH0
 replace hnd:=qh hnd
 replace hno:=qh hno
 replace hfl:=qh hfl
 replace h:=qh h
 clear hH
 go_enter Tryz.func41,Tryz.ntmps41
 go_wp2_with fail
 refine hO.mono ?_
 clear hO
 rintro e w1 ⟨rfl,rfl⟩
 go_wp2_with fail
 refine hHa.mono ?_
 clear hHa
 rintro e w1 ⟨pa,pc,H,rfl,hrow,hperm,hb1⟩
 obtain ⟨n,hn⟩:∃ n,n=H.length:=⟨_,rfl⟩
 have hlh2:Hid (n=T.F.length):=qh (by rw [hn,hperm.length_eq];exact hlh)
 have hnd2:=qh (hperm.nodup_iff.2 hnd.out)
 have hno2:=qh fun g (hg:g∈H)=>hno.out g (hperm.mem_iff.1 hg)
 rw [← hn]
 have hcel:Hid (∀ W T',TEr w1 W T T'→∀ k x,H[k]?=some x→∃ pb,pa=some ⟨pb,0,none⟩∧pb < W.heap.size∧n≤pc∧pc≤maxLen∧W.cell? ⟨pb,k*2,none⟩=some (.int .i64 x.1)∧W.cell? ⟨pb,k*2+1,none⟩=some (.int .u64 x.2)):=qh fun W T' hev k x hx=>by
  obtain ⟨b,cap,ev,_,h2,h3,h4,h5,_,h6⟩:=hrow.at hx;injection ev with ev _ ec;subst ec;have hz:T.ρ b=0:=h.out.bw.ro.far b h2;have hkeep:=hev.ru.block b h3 (by rw [hz];simp;omega);exact ⟨b,ev,Nat.lt_of_lt_of_le h3 hev.ru.size,by rw [hn];exact h4,h5,by rw [World.cell?_of_block hkeep];simpa using h6 0 _ rfl,by rw [World.cell?_of_block hkeep];exact h6 1 _ rfl⟩
 replace hn:=qh hn
 have hA1:=qh (h.out.below hb1)
 replace hb1:=qh hb1
 have hn4:n≤100000:=by have:=hlh2.out;omega
 clear hrow hperm hlh hnd hno c1 c4 c5 c6 hq
 go_wp2_with fail
 go_loopg [18] n (fun gk v wr=>∃ (k:Nat) (T':TS),gk=n - k∧k≤n∧v=.int .i64 k∧AM w0 wr T'∧TEr w1 wr T T'∧T'.F.length+k=n∧T'.free.count true=T.free.count true+k∧∀ j g,k≤j→H[j]?=some g→∃ x,x∈T'.F∧x.1=g)
 case atStart=>exact ⟨0,T,rfl,Nat.zero_le _,rfl,hA1.out,TEr.refl hA1.out,by have:=hlh2.out;omega,rfl,fun j g _ hg=>hno2.out g (List.mem_of_getElem? hg)⟩
 case round =>
  obtain ⟨k,T',rfl,hk,rfl,hA,hE,hL,hF,hR⟩:=hrel;by_cases hlt:k < n
  ·obtain ⟨⟨g1,g2⟩,hg⟩:∃ g,H[k]?=some g:=⟨_,List.getElem?_eq_getElem (by have:=hn.out;omega)⟩
   obtain ⟨x,hx,hxg⟩:=hR k _ (Nat.le_refl _) hg;obtain ⟨pb,rfl,hp1,hp2,hp3,k0,k1⟩:=hcel.out wr T' hE k _ hg;simp only at k0 k1;have hal:Below wr.heap.size wr (wr.alloc (.cells #[.int .i64 g1,.int .u64 g2] 71)):=(Below.refl _ _).alloc (Nat.le_refl _) _;have hbx:=heap_alloc_new wr (.cells #[.int .i64 g1,.int .u64 g2] 71);have hA2:(k:Int) < (n:Int):=by omega
   have hA3:(0:Int)≤(k:Int):=by omega
   have hw1:IntKind.i64.wrap ((k:Int)+1)=(k:Int)+1:=IntWalk.i64_in _ (by omega);replace hA:=qh hA;replace hE:=qh hE;replace hL:=qh hL;replace hF:=qh hF;replace hR:=qh hR;replace hg:=qh hg;replace hx:=qh hx;replace hxg:=qh hxg;unfold maxLen at hp3;clear hA1;go_upto_region 4 with fail;generalize wr.alloc (.cells #[.int .i64 g1,.int .u64 g2] 71)=W1 at *;have b0:W1.cell? ⟨wr.heap.size,0,none⟩=some (.int .i64 g1):=by rw [cell_of_heap hbx];rfl
   have b1:W1.cell? ⟨wr.heap.size,1,none⟩=some (.int .u64 g2):=by rw [cell_of_heap hbx];rfl
   have hAb:=hA.out.below hal;have hEb:=hE.out.trans (TEr.below hA.out hal);have hRel:=(hAb.below ((Below.refl W1.heap.size W1).drew)).release hx.out;rw [hxg.out,hE.out.a] at hRel;have c1:=hEb.cell1 hAb;have hq1:=block_lt_of_cell c1;have hqb:=heap_lt hbx;replace hRel:=qh hRel;replace hEb:=qh (hEb.trans (TEr.below hAb ((Below.refl W1.heap.size W1).drew)));clear k0 k1 hAb hal hbx;unfold hV at hRel
   go_region_with (go_at_call 85;refine hRel.out.mono ?_;rintro z w5 ⟨rfl,T4,r1,r2,r3,r4⟩;replace r2:=qh (hEb.out.trans r2);replace r1:=qh r1;replace r3:=qh r3;replace r4:=qh r4)
   all_goals
    go_wp2_with fail;go_roundg (n - (k+1))
    case rel =>
     refine ⟨k+1,T4,rfl,by omega,by go_num,r1.out,r2.out,?_,?_,fun j g hj hgj=>?_⟩
     ·have h1:=fdel_len hA.out.ndf hx.out
      have h2:=r3.out;rw [← hxg.out] at h2;rw [h2];have:=hL.out;omega
     ·rw [r4.out,hF.out];omega
     ·obtain ⟨y,hy,hyg⟩:=hR.out j g (by omega) hgj
      refine ⟨y,?_,hyg⟩;rw [r3.out];refine mem_fdel.2 ⟨fun he=>?_,hy⟩;have h3:H[j]?=H[k]?:=by rw [hgj,hg.out,← hyg,he]
      have h4:=(List.getElem?_inj (List.getElem?_eq_some_iff.1 hgj).1 hnd2.out).1 h3;omega
    case measure=>omega
  ·obtain rfl:k=n:=by omega
   have hF0:T'.F=[]:=List.length_eq_zero_iff.1 (by omega);have hD0:T'.d.A.L=[]:=List.length_eq_zero_iff.1 (by rw [hA.len,hF0];rfl);have ht:T'.t=T.t:=hE.t;have hblk:=hA.blk;rw [ht] at hblk;have xq:=heap_lt hblk;have xf:=fun i=>frozen_of_heap hblk i
   have hs1:=heap_set_same hblk 4 (.int .i64 0);have hs2:=heap_set_same hs1 5 (.int .i64 0);have hs3:=heap_set_same hs2 6 (.bool true);have x4:wr.cell? ⟨T.t,4,none⟩=some (.int .i64 T'.n):=by rw [cell_of_heap hblk];rfl
   have x5:wr.cell? ⟨T.t,5,none⟩=some (.int .i64 T'.ly):=by rw [cell_of_heap hblk];rfl
   have x6:wr.cell? ⟨T.t,6,none⟩=some (.bool false):=by rw [cell_of_heap hblk];rfl
   have hu:Upd [T.t] wr (((wr.setCell ⟨T.t,4,none⟩ (.int .i64 0)).setCell ⟨T.t,5,none⟩ (.int .i64 0)).setCell ⟨T.t,6,none⟩ (.bool true)):=(((Upd.refl [T.t] wr).setCell (p:=⟨T.t,4,none⟩) (by simp) _).setCell (p:=⟨T.t,5,none⟩) (by simp) _).setCell (p:=⟨T.t,6,none⟩) (by simp) _;have hU:RU [4] wr (((wr.setCell ⟨T.t,4,none⟩ (.int .i64 0)).setCell ⟨T.t,5,none⟩ (.int .i64 0)).setCell ⟨T.t,6,none⟩ (.bool true)) T'.ρ T'.ρ:=RU.upd hA.bw.ro hu (fun k hk _=>by simp at hk;subst hk;rw [← ht];simp [hA.rol]);have hfin:Hid (DropEnd w0 w T (.returned (.tuple #[])) (((wr.setCell ⟨T.t,4,none⟩ (.int .i64 0)).setCell ⟨T.t,5,none⟩ (.int .i64 0)).setCell ⟨T.t,6,none⟩ (.bool true))):=qh ⟨rfl,T',⟨hA.bw.ru hU (by simp),hA.hd,hA.ta,hA.tc,hA.rol,⟨_,_,by rw [ht];exact hs3⟩,hD0,hA.cnt⟩,(TEr.below h.out hb1.out).trans (hE.trans ⟨hU.mono (by simp),rfl,rfl,rfl,rfl,rfl,fun _ _=>rfl,rfl⟩),by have:=hlh2.out;omega⟩;replace hblk:=qh hblk;replace hA:=qh hA;replace hE:=qh hE;replace hF0:=qh hF0;replace hD0:=qh hD0;replace hs1:=qh hs1;replace hs2:=qh hs2;replace hs3:=qh hs3;replace hu:=qh hu;replace hU:=qh hU;replace ht:=qh ht;replace hR:=qh hR;replace hL:=qh hL;replace hF:=qh hF;clear hA1;go_wp2_with fail;exact ⟨rfl,.tuple #[],by simp [results,Tryz.results41,go_sem],hfin.out⟩
end
open Go.RowKit
section
variable {w0 w w':World} {T:TS}
theorem AM.lenC (h:AM w0 w T):Calls Tryz.prog 24 #[.pointer (some ⟨T.t,0,none⟩)] w fun e w'=>e=.returned (.int .i64 ((T.n:Nat):Int))∧w=w':=by
 obtain ⟨c0,c1,c2,c3,c4,c5,c6,hq⟩:=h.cells
 have hNo:=qh (none_ok c1)
 go_enter Tryz.func24,Tryz.ntmps24
 go_wp2_with fail
 refine hNo.out.mono ?_
 rintro e w1 ⟨rfl,rfl⟩
 go_wp2_with fail
 go_ret
 exact ⟨rfl,rfl⟩
theorem AM.layersC (h:AM w0 w T):Calls Tryz.prog 27 #[.pointer (some ⟨T.t,0,none⟩)] w fun e w'=>e=.returned (.int .i64 ((T.ly:Nat):Int))∧w=w':=by
 obtain ⟨c0,c1,c2,c3,c4,c5,c6,hq⟩:=h.cells
 have hNo:=qh (none_ok c1)
 go_enter Tryz.func27,Tryz.ntmps27
 go_wp2_with fail
 refine hNo.out.mono ?_
 rintro e w1 ⟨rfl,rfl⟩
 go_wp2_with fail
 go_ret
 exact ⟨rfl,rfl⟩
theorem AM.slotsC (h:AM w0 w T):Calls Tryz.prog 25 #[.pointer (some ⟨T.t,0,none⟩)] w fun e w'=>e=.returned (.int .i64 ((T.F.length:Nat):Int))∧Below w.heap.size w w':=by
 obtain ⟨c0,c1,c2,c3,c4,c5,c6,hq⟩:=h.cells
 have hNo:=qh (none_ok c1)
 have hL:=qh (AMnode.gLive T.d.A [] _ w (h.bw.ag h.hd h.ta h.tc))
 rw [h.len] at hL
 go_enter Tryz.func25,Tryz.ntmps25
 go_wp2_with fail
 refine hNo.out.mono ?_
 rintro e w1 ⟨rfl,rfl⟩
 go_wp2_with fail
 refine hL.out.mono ?_
 rintro e w1 ⟨rfl,hb⟩
 have hb:=qh hb
 go_wp2_with fail
 go_ret
 exact ⟨rfl,hb.out⟩
theorem lenN (w:World):Calls Tryz.prog 24 #[.pointer none] w fun e w'=>e=.returned (.int .i64 0)∧w=w':=by
 have hNo:=qh (none_nil w)
 go_enter Tryz.func24,Tryz.ntmps24
 go_wp2_with fail
 refine hNo.out.mono ?_
 rintro e w1 ⟨rfl,rfl⟩
 go_wp2_with fail
 go_ret
 exact ⟨rfl,rfl⟩
theorem layersN (w:World):Calls Tryz.prog 27 #[.pointer none] w fun e w'=>e=.returned (.int .i64 0)∧w=w':=by
 have hNo:=qh (none_nil w)
 go_enter Tryz.func27,Tryz.ntmps27
 go_wp2_with fail
 refine hNo.out.mono ?_
 rintro e w1 ⟨rfl,rfl⟩
 go_wp2_with fail
 go_ret
 exact ⟨rfl,rfl⟩
theorem slotsN (w:World):Calls Tryz.prog 25 #[.pointer none] w fun e w'=>e=.returned (.int .i64 0)∧w=w':=by
 have hNo:=qh (none_nil w)
 go_enter Tryz.func25,Tryz.ntmps25
 go_wp2_with fail
 refine hNo.out.mono ?_
 rintro e w1 ⟨rfl,rfl⟩
 go_wp2_with fail
 go_ret
 exact ⟨rfl,rfl⟩
end
theorem mtSlot_any (key val : Str) (i : Nat) (hi : i ≤ 200000000) (hk : key.size ≤ 100000000) (w : World) : Calls Tryz.prog 63 #[.string key, .int .i64 i, .string val] w fun e w' =>
    e=.returned (.agg #[.int .u64 (((mkAt key i).s:Nat):Int),.int .u8 (((mkAt key i).c:Nat):Int),.string (bs (keyAt key (i+1))),.string val,.bool false,.int .i64 0,.int .u64 0])∧Below w.heap.size w w':=by
 have hMo:=qh fun W=>mkOf_any key i (by omega) (by omega) W
 have hR:=qh fun W=>mtRest_any key i (by omega) (by omega) W
 unfold mkV at hMo
 go_enter Tryz.func63,Tryz.ntmps63
 have hx:=heap_alloc_new w (.cells #[.int .u64 0,.int .u8 0,.string ⟨#[]⟩,.string ⟨#[]⟩,.bool false,.int .i64 0,.int .u64 0] 92)
 have hb:=(Below.refl w.heap.size w).alloc (Nat.le_refl _) (.cells #[.int .u64 0,.int .u8 0,.string ⟨#[]⟩,.string ⟨#[]⟩,.bool false,.int .i64 0,.int .u64 0] 92)
 obtain ⟨m,hm⟩:∃ m,m=mkAt key i:=⟨_,rfl⟩
 rw [← hm] at hMo ⊢
 replace hx:=qh hx
 replace hb:=qh hb
 go_wp2_with fail
 refine (hMo.out _).mono ?_
 rintro e w1 ⟨rfl,hb1⟩
 have hx1:=Below.heap' hb1 hx.out
 replace hb1:=qh (hb.out.trans (hb1.mono hb.out.size))
 obtain ⟨x0,x1,x2,x3,x4,x5,x6,xq⟩:=box7 hx1
 have xf:=frozen_of_heap hx1
 obtain ⟨z1,z2⟩:=set7 hx1 (.int .u64 ((m.s:Nat):Int)) (.int .u8 ((m.c:Nat):Int)) (.string (bs (keyAt key (i+1)))) (.string val) (.bool false) (.int .i64 0) (.int .u64 0)
 have hl7:=qh (run_loadVar_mid (P:=Tryz.prog) _ w.heap.size 0 92 [.int .u64 ((m.s:Nat):Int),.int .u8 ((m.c:Nat):Int),.string (bs (keyAt key (i+1))),.string val,.bool false,.int .i64 0,.int .u64 0] _ (range_of_heap z1) Tryz.underlying92 rfl (by kernel_rfl))
 have hfin:Hid (Below w.heap.size w _):=qh (hb1.out.trans (z2.below hb1.out.size (by simp)))
 clear z1 z2
 replace hm:=qh hm
 replace hx1:=qh hx1
 go_wp2_with fail
 refine (hR.out _).mono ?_
 rintro e w2 ⟨rfl,rfl⟩
 go_wp2_with fail
 simp only [set7w] at hl7 hfin
 refine bodyPost_ret (v:=.agg #[.int .u64 ((m.s:Nat):Int),.int .u8 ((m.c:Nat):Int),.string (bs (keyAt key (i+1))),.string val,.bool false,.int .i64 0,.int .u64 0]) (by simp [results,Tryz.results63,asAddr,hl7.out]) rfl ⟨rfl,hfin.out⟩
open Go.RowKit
theorem alk_le (a b:Byt):8*alk a b≤a.length:=by
 induction h:a.length using Nat.strongRecOn generalizing a b with
 | _ n ih =>
  by_cases hs:8 < a.length∧8 < b.length∧a.take 8=b.take 8
  ·rw [alk_step hs]
   have:=ih (a.drop 8).length (by rw [List.length_drop];omega) (a.drop 8) (b.drop 8) rfl;rw [List.length_drop] at this;omega
  ·rw [alk_stop hs]
   omega
theorem extract_take (k:Str) (n:Nat):(ByteArray.extract k 0 n).toList=(bl k).take n:=by
 rw [ByteArray.toList_eq]
 simp only [ByteArray.data_extract,Array.toList_extract]
 show _=(bl k).take n
 rw [List.extract_eq_take_drop]
 rfl
set_option maxHeartbeats 1000000 in
theorem mtAlike_any (a b : Str) (ha : a.size ≤ 100000000) (hb : b.size ≤ 100000000) (w : World) : Calls Tryz.prog 66 #[.string a, .string b] w fun e w' =>
    e=.returned (.int .i64 ((alk (bl a) (bl b):Nat):Int))∧Below w.heap.size w w':=by
 go_enter Tryz.func66,Tryz.ntmps66
 go_wp2_with fail
 go_loopg [0,1,5] a.size (fun gk v0 v1 v5 wr=>∃ (x y:Str) (n:Nat),gk=x.size∧v0=.string x∧v1=.string y∧v5=.int .i64 ((n:Nat):Int)∧n≤100000000∧x.size≤100000000∧y.size≤100000000∧n+alk (bl x) (bl y)=alk (bl a) (bl b)∧Below w.heap.size w wr)
 case atStart=>exact ⟨a,b,0,rfl,rfl,rfl,rfl,by omega,ha,hb,Nat.zero_add _,Below.refl _ _⟩
 case round =>
  obtain ⟨x,y,n,rfl,rfl,rfl,rfl,hn,hx,hy,hal,hB⟩:=hrel;replace hal:=qh hal;replace hB:=qh hB;by_cases h1:8 < x.size
  ·have e1:(8:Int) < (x.size:Int):=by omega
   by_cases h2:8 < y.size
   ·have e2:(8:Int) < (y.size:Int):=by omega
    have e3:¬ (x.size:Int) < 8:=by omega
    have e4:¬ (y.size:Int) < 8:=by omega
    by_cases h3:(bl x).take 8=(bl y).take 8
    ·have hq:((ByteArray.extract x 0 8).toList == (ByteArray.extract y 0 8).toList)=true:=by rw [extract_take,extract_take,h3];simp
     have hst:Hid (alk (bl x) (bl y)=alk ((bl x).drop 8) ((bl y).drop 8)+1):=qh (alk_step ⟨by rw [bl_size];exact h1,by rw [bl_size];exact h2,h3⟩);replace h3:=qh h3;replace hq:=qh hq;have hxd:=qh (extract_drop x 8);have hyd:=qh (extract_drop y 8);go_upto_region 2 with fail
     go_region
     rw [hq.out];go_upto_region 3 with fail
     go_region
     rw [hxd.out,hyd.out];go_wp2_with fail;go_roundg (bs ((bl x).drop 8)).size
     case rel=>exact ⟨bs ((bl x).drop 8),bs ((bl y).drop 8),n+1,rfl,rfl,rfl,by simp,by have:=alk_le (bl a) (bl b);have:=hal.out;have:=bl_size a;have:=hst.out;omega,by rw [← bl_size,bl_bs,List.length_drop,bl_size];omega,by rw [← bl_size,bl_bs,List.length_drop,bl_size];omega,by rw [bl_bs ((bl x).drop 8),bl_bs ((bl y).drop 8)];have:=hal.out;have:=hst.out;omega,hB.out.drew.drew⟩
     case measure=>rw [← bl_size,bl_bs,List.length_drop,bl_size];omega
    ·have hq:((ByteArray.extract x 0 8).toList == (ByteArray.extract y 0 8).toList)=false:=by rw [extract_take,extract_take];simpa using h3
     have hz:Hid (n=alk (bl a) (bl b)):=qh (by have h9:=hal.out;rw [alk_stop (fun h8=>h3 h8.2.2)] at h9;exact h9);replace h3:=qh h3;replace hq:=qh hq;go_upto_region 2 with fail
     go_region
     rw [hq.out];go_wp2_with fail;go_ret;exact ⟨by rw [← hz.out];rfl,hB.out.drew⟩
   ·have e2:¬ (8:Int) < (y.size:Int):=by omega
    have hz:Hid (n=alk (bl a) (bl b)):=qh (by have h9:=hal.out;rw [alk_stop (fun h8=>h2 (by rw [← bl_size];exact h8.2.1))] at h9;exact h9);go_upto_region 2 with fail
    go_region
    go_wp2_with fail;go_ret;exact ⟨by rw [← hz.out];rfl,hB.out.drew⟩
  ·have e1:¬ (8:Int) < (x.size:Int):=by omega
   have hz:Hid (n=alk (bl a) (bl b)):=qh (by have h9:=hal.out;rw [alk_stop (fun h8=>h1 (by rw [← bl_size];exact h8.1))] at h9;exact h9);go_upto_region 2 with fail
   go_region
   go_wp2_with fail;go_ret;exact ⟨by rw [← hz.out];rfl,hB.out.drew⟩
open Go.RowKit
abbrev z8 (W:World) (q:Nat) (n:BN Sl) (ka:Option Addr) (kc:Nat) (va:Option Addr) (vc:Nat) (ha:Option Addr) (hc:Nat):Prop:=W.cell? ⟨q,113,none⟩=some (.bool false)∧W.cell? ⟨q,114,none⟩=some (.slice ka n.keys.length kc)∧W.cell? ⟨q,115,none⟩=some (.slice va 0 vc)∧W.cell? ⟨q,116,none⟩=some (.slice ha n.kids.length hc)∧W.cell? ⟨q,117,none⟩=some (.string n.high)∧W.cell? ⟨q,118,none⟩=some (.bool n.bnd)∧W.cell? ⟨q,119,none⟩=some (.int .i64 n.next.1)∧W.cell? ⟨q,120,none⟩=some (.int .u64 n.next.2)
theorem inn_range {w:World} {q:Nat} {g u:Value} {ic:List Value} {t:TypeId} (h:w.heap[q]?=some (.cells (g::u::(zlc++ic)).toArray t)):w.rangeAt q 113 ic:=fun j v hv=>by
 rw [cell_of_heap h]
 have h2:(g::u::(zlc++ic))[113+j]?=some v:=by
  rw [show g::u::(zlc++ic)=(g::u::zlc)++ic from rfl,List.getElem?_append_right (by rw [List.length_cons,List.length_cons,zlc_len];omega),List.length_cons,List.length_cons,zlc_len,show 113+j - (111+1+1)=j by omega];exact hv
 rw [zg1]
 exact h2
theorem low_cell {w:World} {q:Nat} {g u:Value} {L:List Value} {t:TypeId} (h:w.heap[q]?=some (.cells (g::u::L).toArray t)):w.cell? ⟨q,1,none⟩=some u:=by rw [cell_of_heap h];rfl
section
variable {w0 w:World} {T:TS} {Y:List Ly} {C:Cont Str} {l:Ly}
theorem MTr.node (h : MTr w0 w T Y C) {x : Hd × BN Sl} (hx : x ∈ flat Y) : ∃ (e : AEnt) (n : ND), (x.1, n) ∈ T.F ∧ n.bn = x.2 ∧ e ∈ T.d.A.L ∧ (e.slot : Int) = x.1.1 ∧ e.gen = x.1.2 ∧ w.heap[e.blk]? = some (.cells (.int .u64 e.gen :: n.cs).toArray 192) ∧ Seen w n ∧
    ∀ W,Below w.heap.size w W→Calls Tryz.prog 62 #[.pointer (some ⟨T.d.A.a,0,none⟩),hV x.1] W fun y W'=>y=.returned (.tuple #[.pointer (some ⟨e.blk,1,none⟩),.bool true])∧Below W.heap.size W W':=by
 obtain ⟨z,hz,hzx⟩:=h.mem.1 hx
 subst hzx
 obtain ⟨e,e1,e2,e3,e4,e5⟩:=h.am.get hz
 exact ⟨e,z.2,hz,rfl,e1,e2,e3,e4,⟨⟨T.ρ,h.am.ok z hz⟩,h.kd z hz⟩,e5⟩
theorem hd_info:∃ i0:TypeInfo,Tryz.prog.info? 71=some i0∧i0.zero=some (.agg #[.int .i64 0,.int .u64 0])∧i0.size=2∧i0.bytes=16:=info_parts (show (Tryz.prog.info? 71).map (fun i=>(i.zero,i.size,i.bytes))=some (some (.agg #[.int .i64 0,.int .u64 0]),2,16) by kernel_rfl)
def PathEnd (w:World) (L:List Hd) (x:Ending) (w':World):Prop:=∃ a c,x=.returned (.slice a L.length c)∧Row w.heap.size 71 2 hcel w' (.slice a L.length c) L∧Below w.heap.size w w'
set_option maxRecDepth 100000 in
set_option maxHeartbeats 2000000 in
theorem MTr.path (h : MTr w0 w T Y C) (hl : l ∈ Y) {m : Mk} (hm : MkOK m) :
    Calls Tryz.prog 108 #[.pointer (some ⟨T.t,0,none⟩),hV l.r,mkV m] w (PathEnd w (pathOf l.Ls (mT m))):=by
 obtain ⟨n0,htop⟩:=h.sane.top l hl
 have htw:=h.sane.ok.tow l hl
 have hll:=h.sane.len l hl
 have hsl:=h.sane.slim l hl
 have hat0:=htw.atTop htop (mT m)
 have c1:=h.am.cells.2.1
 have hl0:0 < l.Ls.length:=by have:=(List.getElem?_eq_some_iff.1 htop).1;omega
 have hEn:=qh fun (x:Hd×BN Sl) (hx:x∈l.Ls.flatten)=>h.node (x:=x) (List.mem_flatMap.2 ⟨l,hl,hx⟩)
 obtain ⟨i0,hi0,hzA,hzB,hzC⟩:=hd_info
 obtain ⟨Ls,hLs⟩:∃ x,x=l.Ls:=⟨_,rfl⟩
 obtain ⟨key,hkey⟩:∃ x,x=mT m:=⟨_,rfl⟩
 obtain ⟨r,hr⟩:∃ x,x=l.r:=⟨_,rfl⟩
 have hTx:=qh fun W=>mkText_any m hm W
 rw [← hkey] at hat0 hTx ⊢
 rw [← hLs] at htop htw hll hsl hl0 hEn ⊢
 rw [← hr] at htop hat0 ⊢
 obtain ⟨t,ht⟩:∃ t,t=T.t:=⟨_,rfl⟩
 obtain ⟨A,hA⟩:∃ a,a=T.d.A.a:=⟨_,rfl⟩
 rw [← ht] at c1 ⊢
 rw [← hA] at c1 hEn
 replace hLs:=qh hLs
 replace hkey:=qh hkey
 replace hr:=qh hr
 replace ht:=qh ht
 replace hA:=qh hA
 have hq:=block_lt_of_cell c1
 replace htop:=qh htop
 replace hat0:=qh hat0
 replace htw:=qh htw
 replace hsl:=qh hsl
 clear h hm hl
 unfold mkV at hTx ⊢
 unfold hV at hEn ⊢
 have hbA:=below_two w (.cells #[.int .i64 r.1,.int .u64 r.2] 71) (.cells #[.int .u64 ((m.s:Nat):Int),.int .u8 ((m.c:Nat):Int)] 90)
 have hmA:=(heap_two w (.cells #[.int .i64 r.1,.int .u64 r.2] 71) (.cells #[.int .u64 ((m.s:Nat):Int),.int .u8 ((m.c:Nat):Int)] 90)).2
 have hsA:((w.alloc (.cells #[.int .i64 r.1,.int .u64 r.2] 71)).alloc (.cells #[.int .u64 ((m.s:Nat):Int),.int .u8 ((m.c:Nat):Int)] 90)).heap.size=w.heap.size+1+1:=by simp
 obtain ⟨wa,hwa⟩:∃ W,W=(w.alloc (.cells #[.int .i64 r.1,.int .u64 r.2] 71)).alloc (.cells #[.int .u64 ((m.s:Nat):Int),.int .u8 ((m.c:Nat):Int)] 90):=⟨_,rfl⟩
 rw [← hwa] at hbA hmA hsA
 have hst:Row wa.heap.size 71 2 hcel (wa.alloc (.cells #[.int .i64 r.1,.int .u64 r.2] 71)) (.slice (some ⟨wa.heap.size,0,none⟩) 1 1) [r] :=
  ⟨hcel_len,hcel_one,rfl,.inr ⟨wa.heap.size,1,_,rfl,Nat.le_refl _,heap_alloc_new _ _,Nat.le_refl _,by unfold maxLen;omega,rfl,rfl⟩⟩
 replace hst:=qh hst
 replace hwa:=qh hwa
 replace hbA:=qh hbA
 replace hmA:=qh hmA
 replace hsA:=qh hsA
 go_enter Tryz.func108,Tryz.ntmps108
 go_wp2_with fail
 rw [← hsA.out,← hwa.out]
 obtain ⟨MB,hMB⟩:∃ b,b=w.heap.size+1:=⟨_,rfl⟩
 rw [← hMB] at hmA ⊢
 replace hMB:=qh hMB
 go_loopg [7] Ls.length (fun gk v wr=>∃ (j:Nat) (R:Lev Sl) (x:Hd×BN Sl) (k b cap:Nat),gk=j+1∧v=.slice (some ⟨b,0,none⟩) (k+1) cap∧Ls[j]?=some R∧atK R key=some x∧k+j+1=Ls.length∧Below wa.heap.size wa wr∧Row wa.heap.size 71 2 hcel wr (.slice (some ⟨b,0,none⟩) (k+1) cap) ((Ls.drop j).map (hdl key)).reverse)
 case atStart =>
  refine ⟨Ls.length - 1,_,_,0,_,_,by omega,rfl,htop.out,hat0.out,by omega,(Below.refl _ _).alloc (Nat.le_refl _) _,?_⟩;have e:=path_step htop.out hat0.out;rw [show Ls.length - 1+1=Ls.length by omega,List.drop_length] at e;rw [e];exact hst.out
 case round =>
  obtain ⟨j,R,x,k0,b,cap,rfl,rfl,hR,hx,hmj,hB,hrow⟩:=hrel;obtain ⟨hxm,hxc⟩:=atK_mem hx;obtain ⟨⟨lo,hno⟩,hlf⟩:(∃ lo,NodeOK lo x.2)∧x.2.leaf=decide (j=0):=⟨(htw.out.ok j R hR).node hxm,(htw.out.ok j R hR).lf x hxm⟩;obtain ⟨e,nd,_,hbn,_,_,_,hcel0,hseen,hG⟩:=hEn.out x (mem_flat hR hxm)
  have hdn:Hid (∀ i,j=i+1→∃ S z,Ls[i]?=some S∧atK S key=some z∧x.2.kids[cutE key x.2.keys]?=some z.1):=qh fun i hi=>by
   subst hi;exact htw.out.down hR hx
  have hlen:((Ls.drop j).map (hdl key)).reverse.length=k0+1:=by simp;omega
  have hlast:((Ls.drop j).map (hdl key)).reverse[k0]?=some x.1:=by
   rw [path_step hR hx,List.getElem?_append_right (by simp;omega),show k0 - ((Ls.drop (j+1)).map (hdl key)).reverse.length=0 by simp;omega];rfl
  obtain ⟨b',cap',ev,hown,hb1,hb2,hb3,hb4,hb5,hat⟩:=hrow.at hlast;injection ev with ev hle ev2;clear hle;injection ev with ev;injection ev with ev;subst ev ev2;have y0:=hat 0 _ rfl;have y1:=hat 1 _ rfl;clear hat;rw [Nat.add_zero] at y0;have hBw:=hbA.out.trans (hB.mono hbA.out.size);have c1':=keep hBw c1;have hbl:b < wr.heap.size:=hb2;obtain ⟨⟨h1,h2⟩,n⟩:=x;simp only at hno hlf hbn hcel0 hG hdn hxc y0 y1 hlast;have hme:=heap_lt hmA.out;obtain ⟨k,hk⟩:∃ k,k=k0+1:=⟨_,rfl⟩;rw [← hk] at hrow hlen hown ⊢;replace hown:=qh hown;have hb1x:=qh hb1;clear hb1;have hw1:IntKind.i64.wrap ((k:Int) - 1)=k0:=by rw [show ((k:Int) - 1)=k0 by omega];exact IntWalk.i64_in _ (by omega)
  have hmk:k0 < k:=by omega
  have hmk0:(0:Int)≤(k0:Int):=by omega
  have hmk1:(k0:Int) < (k:Int):=by omega
  clear hb3 hb5;have hqw:e.blk < w.heap.size:=heap_lt hcel0;replace hk:=qh hk;replace hmj:=qh hmj;replace hG:=qh hG;replace hB:=qh hB;replace hBw:=qh hBw;replace hrow:=qh hrow;replace hlast:=qh hlast;replace hlen:=qh hlen;replace hcel0:=qh hcel0;replace hbn:=qh hbn;replace hR:=qh hR;replace hx:=qh hx;replace hno:=qh hno;replace hxc:=qh hxc;obtain ⟨q,hq9⟩:∃ q,q=e.blk:=⟨_,rfl⟩;rw [← hq9] at hG hcel0 hqw;clear hxm;replace hq9:=qh hq9;rcases hseen.cases with ⟨f,s1,s2,s3,s4⟩ | ⟨s1,s2,s3,ic,B,s4,s5⟩
  ·rw [hbn.out] at s2
   have hj0:j=0:=by simpa [hlf] using s2
   have xl:=low_cell (s4 ▸ hcel0.out);replace xl:=qh xl;replace s4:=qh s4;replace s3:=qh s3;clear hseen s1;go_upto_region 2 with fail
   go_region_with (go_at_call 62;refine (hG.out _ hBw.out.drew).mono ?_;rintro z w1 ⟨rfl,hb1⟩;have hbw:=hBw.out.drew.trans (hb1.mono hBw.out.drew.size);have hrw:=(hrow.out.below (Below.refl wr.heap.size wr).drew).below hb1;have x1:=keep hbw xl.out;replace hbw:=qh hbw;replace hrw:=qh hrw;clear hb1)
   all_goals
    go_wp2_with fail;go_ret;have hpe:pathOf Ls key=((Ls.drop 0).map (hdl key)).reverse:=by simp [pathOf]
    rw [hj0] at hlen hrw;refine ⟨some ⟨b,0,none⟩,cap,?_,?_,hbw.out⟩
    ·rw [hpe,hlen.out];rfl
    ·rw [hpe,hlen.out]
     exact hrw.out.rebase fun g hg=>by
      rw [hown.out] at hg;injection hg with hg;rw [← hg];exact Nat.le_trans hbA.out.size hb1x.out
  ·rw [hbn.out] at s1 s2 s3 s5
   obtain ⟨i,rfl⟩:∃ i,j=i+1:=by
    rcases Nat.eq_zero_or_pos j with h9 | h9
    ·subst h9;simp [hlf] at s1
    ·exact ⟨j - 1,by omega⟩
   obtain ⟨S,z,hS1x,hz1,hz2⟩:=hdn.out i rfl;have xl:=low_cell (s4 ▸ hcel0.out);have hir:=inn_range (s4 ▸ hcel0.out);have hKd:=qh fun W (hW:Below w.heap.size w W)=>(s5.below hW).kid (key:=key) (g:=z.1) (down_ok hno.out s1) (by show n.keys.length≤1000;omega) rfl hxc.out hz2
   obtain ⟨ka,kc,va,vc,ha,hc,hic,-,-⟩:=s5.cells;replace xl:=qh xl;rw [hic] at hir hKd;have hrr:Hid (∀ W,Below w.heap.size w W→W.cell? ⟨q,113,none⟩=some (.bool false)∧W.cell? ⟨q,114,none⟩=some (.slice ka n.keys.length kc)∧W.cell? ⟨q,115,none⟩=some (.slice va 0 vc)∧W.cell? ⟨q,116,none⟩=some (.slice ha n.kids.length hc)∧W.cell? ⟨q,117,none⟩=some (.string n.high)∧W.cell? ⟨q,118,none⟩=some (.bool n.bnd)∧W.cell? ⟨q,119,none⟩=some (.int .i64 n.next.1)∧W.cell? ⟨q,120,none⟩=some (.int .u64 n.next.2)):=qh fun W hW=>⟨keep hW (hir 0 _ rfl),keep hW (hir 1 _ rfl),keep hW (hir 2 _ rfl),keep hW (hir 3 _ rfl),keep hW (hir 4 _ rfl),keep hW (hir 5 _ rfl),keep hW (hir 6 _ rfl),keep hW (hir 7 _ rfl)⟩
   replace hKd:=qh hKd.out;simp only [down] at hKd;clear hir s2 s5;replace s4:=qh s4;replace s1:=qh s1;replace s3:=qh s3;replace hS1x:=qh hS1x;replace hz1:=qh hz1;replace hz2:=qh hz2;replace hic:=qh hic;clear hseen;go_upto_region 2 with fail
   go_region_with (go_at_call 62;refine (hG.out _ hBw.out.drew).mono ?_;rintro z w1 ⟨rfl,hb1⟩;have hbw:=hBw.out.drew.trans (hb1.mono hBw.out.drew.size);have hrw:=(hrow.out.below (Below.refl wr.heap.size wr).drew).below hb1;have hma:=Below.heap' (hB.out.drew.trans (hb1.mono hB.out.drew.size)) hmA.out;have hBa:=hB.out.drew.trans (hb1.mono hB.out.drew.size);have x1:=keep hbw xl.out;replace hbw:=qh hbw;replace hrw:=qh hrw;replace hma:=qh hma;replace hBa:=qh hBa;clear hb1)
   all_goals
    go_upto_region 5 with fail;obtain ⟨i1,i2,i3,i4,i5,i6,i7,i8⟩:=hrr.out w1 hbw.out;obtain ⟨n1,n2,nq,-,-⟩:=box2 hma.out;have hq1:=Nat.lt_of_lt_of_le hqw hbw.out.size;refine wp_region_held_drew (S:=fun W'=>z8 W' q n ka kc va vc ha hc∧W'.heap[MB]?=some (.cells #[.int .u64 ((m.s:Nat):Int),.int .u8 ((m.c:Nat):Int)] 90)) rfl ⟨⟨i1,i2,i3,i4,i5,i6,i7,i8⟩,hma.out⟩ (fun hHeld=>?_);refine tkL 0 ?_;refine tkL 1 ?_;refine tkL 2 ?_;refine tkL 3 ?_ (hz:=by rintro w ⟨⟨e1,e2,e3,e4,e5,e6,e7,e8⟩,hSm⟩;obtain ⟨f1,f2,-,-,-⟩:=box2 hSm;exact zf);refine tkL 4 ?_ (hz:=by rintro w ⟨⟨e1,e2,e3,e4,e5,e6,e7,e8⟩,hSm⟩;obtain ⟨f1,f2,-,-,-⟩:=box2 hSm;exact zf);refine wpAnyH_ready (rs:=[5,10]) (by kernel_rfl) (by simp) ?_;refine (AllReadyH.cons rfl (fun K hK=>?_) (AllReadyH.cons rfl (fun K hK=>?_) AllReadyH.nil))
    ·skip
     have hb0:=(Below.refl w1.heap.size w1).drew;go_simp;go_at_call 97;refine (hTx.out _).mono ?_;rintro z3 w3 ⟨rfl,hb3⟩;have hb5:=hb0.trans (hb3.mono hb0.size);have hS1:z8 w3 q n ka kc va vc ha hc∧w3.heap[MB]?=some (.cells #[.int .u64 ((m.s:Nat):Int),.int .u8 ((m.c:Nat):Int)] 90):=⟨hrr.out _ (hbw.out.trans (hb5.mono hbw.out.size)),Below.heap' hb5 hma.out⟩;replace hb3:=qh hb3;go_wp2_with fail;refine hK.out _ _ hS1 (fun _=>?_);clear hHeld hK K;have hHeld:=hS1;clear hS1
     try simp only [Act.put,zs1,zs2,zs3]
     refine wpAnyH_ready (rs:=[6,10]) (by kernel_rfl) (by simp) ?_;refine (AllReadyH.cons rfl (fun K hK=>?_) (AllReadyH.cons rfl (fun K hK=>?_) AllReadyH.nil))
     ·skip
      go_simp;go_at_call 96;refine (hKd.out _ (hbw.out.trans (hb5.mono hbw.out.size))).mono ?_;rintro z3 w4 ⟨rfl,hb3⟩;have hb6:=hb5.trans (hb3.mono hb5.size);have hS1:z8 w4 q n ka kc va vc ha hc∧w4.heap[MB]?=some (.cells #[.int .u64 ((m.s:Nat):Int),.int .u8 ((m.c:Nat):Int)] 90):=⟨hrr.out _ (hbw.out.trans (hb6.mono hbw.out.size)),Below.heap' hb6 hma.out⟩;replace hb3:=qh hb3;go_wp2_with fail;refine hK.out _ _ hS1 (fun _=>?_);clear hHeld hK K;have hHeld:=hS1;clear hS1
      try simp only [Act.put,zs1,zs2,zs3]
      refine tkL 7 ?_;refine tkL 8 ?_;refine tkL 9 ?_;refine rdL 10 ?_;intro K hK;go_simp;have hb7:=hb6.alloc hb6.size (.cells #[.int .i64 0,.int .u64 0] 71);have kk:=heap_alloc_new w4 (.cells #[.int .i64 0,.int .u64 0] 71);generalize w4.alloc (.cells #[.int .i64 0,.int .u64 0] 71)=w5 at *;obtain ⟨nb,hnb⟩:∃ x,x=w4.heap.size:=⟨_,rfl⟩;have hge:w1.heap.size≤nb:=by rw [hnb];exact hb6.size
      rw [← hnb] at kk ⊢;replace hnb:=qh hnb;replace hge:=qh hge;replace kk:=qh kk;have hS1:z8 w5 q n ka kc va vc ha hc∧w5.heap[MB]?=some (.cells #[.int .u64 ((m.s:Nat):Int),.int .u8 ((m.c:Nat):Int)] 90):=⟨hrr.out _ (hbw.out.trans (hb7.mono hbw.out.size)),Below.heap' hb7 hma.out⟩;refine hK.out _ _ hS1 (fun _=>?_);clear hHeld hK K;have hHeld:=hS1;clear hS1
      try simp only [Act.put,zs1,zs2,zs3]
      have kk6:((w5.setCell ⟨nb,0,none⟩ (.int .i64 z.1.1)).setCell ⟨nb,1,none⟩ (.int .u64 z.1.2)).heap[nb]?=some (.cells #[.int .i64 z.1.1,.int .u64 z.1.2] 71):=by rw [heap_set_same (heap_set_same kk.out 0 _) 1 _];rfl
      have hu8:Upd [nb] w5 ((w5.setCell ⟨nb,0,none⟩ (.int .i64 z.1.1)).setCell ⟨nb,1,none⟩ (.int .u64 z.1.2)):=((Upd.refl [nb] w5).setCell (p:=⟨nb,0,none⟩) (by simp) _).setCell (p:=⟨nb,1,none⟩) (by simp) _;have hb8:Below w1.heap.size w1 ((w5.setCell ⟨nb,0,none⟩ (.int .i64 z.1.1)).setCell ⟨nb,1,none⟩ (.int .u64 z.1.2)):=hb7.trans (hu8.below hb7.size (fun x hx=>by rw [List.mem_singleton.1 hx];exact hge.out));clear hu8;have hS1:z8 ((w5.setCell ⟨nb,0,none⟩ (.int .i64 z.1.1)).setCell ⟨nb,1,none⟩ (.int .u64 z.1.2)) q n ka kc va vc ha hc∧((w5.setCell ⟨nb,0,none⟩ (.int .i64 z.1.1)).setCell ⟨nb,1,none⟩ (.int .u64 z.1.2)).heap[MB]?=some (.cells #[.int .u64 ((m.s:Nat):Int),.int .u8 ((m.c:Nat):Int)] 90):=⟨hrr.out _ (hbw.out.trans (hb8.mono hbw.out.size)),Below.heap' hb8 hma.out⟩;replace hS1:=qh hS1;replace kk6:=qh kk6;replace hb8:=qh hb8;obtain ⟨b0,b1,bq,bf0,bf1⟩:=box2 kk.out;refine rdL 11 ?_;intro K hK;go_simp;replace hS1:=hS1.out;refine hK.out _ _ hS1 (fun _=>?_);clear hHeld hK K;have hHeld:=hS1;clear hS1
      try simp only [Act.put,zs1,zs2,zs3]
      refine tkL 12 ?_;refine wpAnyH_done (by kernel_rfl) ?_ _
      try simp only [Exit.then]
      clear hHeld b0 b1 bq bf0 bf1;generalize ((w5.setCell ⟨nb,0,none⟩ (.int .i64 z.1.1)).setCell ⟨nb,1,none⟩ (.int .u64 z.1.2))=w6 at *;have hBa6:=hBa.out.trans (hb8.out.mono hBa.out.size);have hrw6:=hrw.out.below hb8.out;obtain ⟨g0,g1,gq,-,-⟩:=box2 kk6.out;have hA2:Below w6.heap.size w6 (w6.alloc (.cells #[.int .i64 z.1.1,.int .u64 z.1.2] 71)):=(Below.refl _ _).alloc (Nat.le_refl _) _;have hr5:=qh (hrw6.below hA2);have hs5:=SrcOf.one w6 71 [.int .i64 z.1.1,.int .u64 z.1.2] (by intro y hy;simp at hy;rcases hy with rfl | rfl <;> rfl);replace hs5:=qh hs5;have hbb:=qh (Nat.le_trans hBa6.size hA2.size);have hbel:=qh (hBa6.trans (hA2.mono hBa6.size));have hlm:Hid (((Ls.drop (i+1)).map (hdl key)).reverse.length+1≤maxLen):=qh (by rw [hlen.out];unfold maxLen;have:=hk.out;have:=hmj.out;omega);have hly:Hid ((((Ls.drop (i+1)).map (hdl key)).reverse.length+1)*16≤140737488355328):=qh (by rw [hlen.out];have:=hk.out;have:=hmj.out;omega);clear hA2 hBa6 hrw6
      go_wp2_with (at_builtin;refine wpList_append_row (f:=hcel) (M:=[z.1]) _ rfl _ _ 77 rfl wa.heap.size 71 i0 (.agg #[.int .i64 0,.int .u64 0]) 2 16 Tryz.underlying77 hi0 hzA hzB hzC rfl (by decide) (.slice (some ⟨b,0,none⟩) k cap) ((Ls.drop (i+1)).map (hdl key)).reverse rfl hr5.out _ rfl hs5.out hlm.out hly.out hbb.out ?_;intro a' c' w7 hrow6 hu6 hat6;replace hrow6:=qh hrow6;replace hu6:=qh hu6;replace hat6:=qh hat6)
      have hne:∃ b6,a'=some ⟨b6,0,none⟩:=by
       rcases hrow6.out.cases with ⟨_,h0⟩ | ⟨b6,cap6,e6,_⟩
       ·simp at h0
       ·injection e6 with e6
        exact ⟨b6,e6⟩
      obtain ⟨b6,rfl⟩:=hne;go_roundg (i+1)
      case rel =>
       have hkk:k=Ls.length - (i+1):=by have:=hk.out;have:=hmj.out;omega
       have hll2:((Ls.drop (i+1)).map (hdl key)).reverse.length=k:=hlen.out;have hrow7:=hrow6.out;rw [← path_step hS1x.out hz1.out,hll2] at hrow7;refine ⟨i,S,z,k,b6,c',rfl,by rw [hkk],hS1x.out,hz1.out,by have:=hk.out;have:=hmj.out;omega,hbel.out.trans (hu6.out.below hbb.out (fun y hy=>?_)),hrow7⟩;have:=mem_own hy;rw [hown.out] at this;injection this with this;rw [← this];exact hb1x.out
      case measure=>omega
     ·skip
      go_simp;have hb6:=hb5.alloc hb5.size (.cells #[.int .i64 0,.int .u64 0] 71);have kk:=heap_alloc_new w3 (.cells #[.int .i64 0,.int .u64 0] 71);generalize w3.alloc (.cells #[.int .i64 0,.int .u64 0] 71)=w4 at *;obtain ⟨nb,hnb⟩:∃ x,x=w3.heap.size:=⟨_,rfl⟩;have hge:w1.heap.size≤nb:=by rw [hnb];exact hb5.size
      rw [← hnb] at kk ⊢;replace hnb:=qh hnb;replace hge:=qh hge;replace kk:=qh kk;have hS1:z8 w4 q n ka kc va vc ha hc∧w4.heap[MB]?=some (.cells #[.int .u64 ((m.s:Nat):Int),.int .u8 ((m.c:Nat):Int)] 90):=⟨hrr.out _ (hbw.out.trans (hb6.mono hbw.out.size)),Below.heap' hb6 hma.out⟩;refine hK.out _ _ hS1 (fun _=>?_);clear hHeld hK K;have hHeld:=hS1;clear hS1
      try simp only [Act.put,zs1,zs2,zs3]
      refine rdL 6 ?_;intro K hK;go_simp;go_at_call 96;refine (hKd.out _ (hbw.out.trans (hb6.mono hbw.out.size))).mono ?_;rintro z3 w5 ⟨rfl,hb3⟩;have hb7:=hb6.trans (hb3.mono hb6.size);replace kk:=qh (Below.heap' hb3 kk.out);have hS1:z8 w5 q n ka kc va vc ha hc∧w5.heap[MB]?=some (.cells #[.int .u64 ((m.s:Nat):Int),.int .u8 ((m.c:Nat):Int)] 90):=⟨hrr.out _ (hbw.out.trans (hb7.mono hbw.out.size)),Below.heap' hb7 hma.out⟩;replace hb3:=qh hb3;go_wp2_with fail;refine hK.out _ _ hS1 (fun _=>?_);clear hHeld hK K;have hHeld:=hS1;clear hS1
      try simp only [Act.put,zs1,zs2,zs3]
      refine tkL 7 ?_;refine tkL 8 ?_;refine tkL 9 ?_;have kk6:((w5.setCell ⟨nb,0,none⟩ (.int .i64 z.1.1)).setCell ⟨nb,1,none⟩ (.int .u64 z.1.2)).heap[nb]?=some (.cells #[.int .i64 z.1.1,.int .u64 z.1.2] 71):=by rw [heap_set_same (heap_set_same kk.out 0 _) 1 _];rfl
      have hu8:Upd [nb] w5 ((w5.setCell ⟨nb,0,none⟩ (.int .i64 z.1.1)).setCell ⟨nb,1,none⟩ (.int .u64 z.1.2)):=((Upd.refl [nb] w5).setCell (p:=⟨nb,0,none⟩) (by simp) _).setCell (p:=⟨nb,1,none⟩) (by simp) _;have hb8:Below w1.heap.size w1 ((w5.setCell ⟨nb,0,none⟩ (.int .i64 z.1.1)).setCell ⟨nb,1,none⟩ (.int .u64 z.1.2)):=hb7.trans (hu8.below hb7.size (fun x hx=>by rw [List.mem_singleton.1 hx];exact hge.out));clear hu8;have hS1:z8 ((w5.setCell ⟨nb,0,none⟩ (.int .i64 z.1.1)).setCell ⟨nb,1,none⟩ (.int .u64 z.1.2)) q n ka kc va vc ha hc∧((w5.setCell ⟨nb,0,none⟩ (.int .i64 z.1.1)).setCell ⟨nb,1,none⟩ (.int .u64 z.1.2)).heap[MB]?=some (.cells #[.int .u64 ((m.s:Nat):Int),.int .u8 ((m.c:Nat):Int)] 90):=⟨hrr.out _ (hbw.out.trans (hb8.mono hbw.out.size)),Below.heap' hb8 hma.out⟩;replace hS1:=qh hS1;replace kk6:=qh kk6;replace hb8:=qh hb8;obtain ⟨b0,b1,bq,bf0,bf1⟩:=box2 kk.out;refine rdL 11 ?_;intro K hK;go_simp;replace hS1:=hS1.out;refine hK.out _ _ hS1 (fun _=>?_);clear hHeld hK K;have hHeld:=hS1;clear hS1
      try simp only [Act.put,zs1,zs2,zs3]
      refine tkL 12 ?_;refine wpAnyH_done (by kernel_rfl) ?_ _
      try simp only [Exit.then]
      clear hHeld b0 b1 bq bf0 bf1;generalize ((w5.setCell ⟨nb,0,none⟩ (.int .i64 z.1.1)).setCell ⟨nb,1,none⟩ (.int .u64 z.1.2))=w6 at *;have hBa6:=hBa.out.trans (hb8.out.mono hBa.out.size);have hrw6:=hrw.out.below hb8.out;obtain ⟨g0,g1,gq,-,-⟩:=box2 kk6.out;have hA2:Below w6.heap.size w6 (w6.alloc (.cells #[.int .i64 z.1.1,.int .u64 z.1.2] 71)):=(Below.refl _ _).alloc (Nat.le_refl _) _;have hr5:=qh (hrw6.below hA2);have hs5:=SrcOf.one w6 71 [.int .i64 z.1.1,.int .u64 z.1.2] (by intro y hy;simp at hy;rcases hy with rfl | rfl <;> rfl);replace hs5:=qh hs5;have hbb:=qh (Nat.le_trans hBa6.size hA2.size);have hbel:=qh (hBa6.trans (hA2.mono hBa6.size));have hlm:Hid (((Ls.drop (i+1)).map (hdl key)).reverse.length+1≤maxLen):=qh (by rw [hlen.out];unfold maxLen;have:=hk.out;have:=hmj.out;omega);have hly:Hid ((((Ls.drop (i+1)).map (hdl key)).reverse.length+1)*16≤140737488355328):=qh (by rw [hlen.out];have:=hk.out;have:=hmj.out;omega);clear hA2 hBa6 hrw6
      go_wp2_with (at_builtin;refine wpList_append_row (f:=hcel) (M:=[z.1]) _ rfl _ _ 77 rfl wa.heap.size 71 i0 (.agg #[.int .i64 0,.int .u64 0]) 2 16 Tryz.underlying77 hi0 hzA hzB hzC rfl (by decide) (.slice (some ⟨b,0,none⟩) k cap) ((Ls.drop (i+1)).map (hdl key)).reverse rfl hr5.out _ rfl hs5.out hlm.out hly.out hbb.out ?_;intro a' c' w7 hrow6 hu6 hat6;replace hrow6:=qh hrow6;replace hu6:=qh hu6;replace hat6:=qh hat6)
      have hne:∃ b6,a'=some ⟨b6,0,none⟩:=by
       rcases hrow6.out.cases with ⟨_,h0⟩ | ⟨b6,cap6,e6,_⟩
       ·simp at h0
       ·injection e6 with e6
        exact ⟨b6,e6⟩
      obtain ⟨b6,rfl⟩:=hne;go_roundg (i+1)
      case rel =>
       have hkk:k=Ls.length - (i+1):=by have:=hk.out;have:=hmj.out;omega
       have hll2:((Ls.drop (i+1)).map (hdl key)).reverse.length=k:=hlen.out;have hrow7:=hrow6.out;rw [← path_step hS1x.out hz1.out,hll2] at hrow7;refine ⟨i,S,z,k,b6,c',rfl,by rw [hkk],hS1x.out,hz1.out,by have:=hk.out;have:=hmj.out;omega,hbel.out.trans (hu6.out.below hbb.out (fun y hy=>?_)),hrow7⟩;have:=mem_own hy;rw [hown.out] at this;injection this with this;rw [← this];exact hb1x.out
      case measure=>omega
    ·skip
     have hb0:=Below.refl w1.heap.size w1;go_simp;have hb5:=(hb0.alloc hb0.size (.cells #[.int .i64 0,.int .u64 0] 71)).drew;have kk:(w1.alloc (.cells #[.int .i64 0,.int .u64 0] 71)).drew.heap[w1.heap.size]?=_:=heap_alloc_new w1 (.cells #[.int .i64 0,.int .u64 0] 71);generalize (w1.alloc (.cells #[.int .i64 0,.int .u64 0] 71)).drew=w3 at *;obtain ⟨nb,hnb⟩:∃ x,x=w1.heap.size:=⟨_,rfl⟩;have hge:w1.heap.size≤nb:=by rw [hnb];exact Nat.le_refl _
     rw [← hnb] at kk ⊢;replace hnb:=qh hnb;replace hge:=qh hge;replace kk:=qh kk;have hS1:z8 w3 q n ka kc va vc ha hc∧w3.heap[MB]?=some (.cells #[.int .u64 ((m.s:Nat):Int),.int .u8 ((m.c:Nat):Int)] 90):=⟨hrr.out _ (hbw.out.trans (hb5.mono hbw.out.size)),Below.heap' hb5 hma.out⟩;refine hK.out _ _ hS1 (fun _=>?_);clear hHeld hK K;have hHeld:=hS1;clear hS1
     try simp only [Act.put,zs1,zs2,zs3]
     refine rdL 5 ?_;intro K hK;go_simp;go_at_call 97;refine (hTx.out _).mono ?_;rintro z3 w4 ⟨rfl,hb3⟩;have hb6:=hb5.trans (hb3.mono hb5.size);replace kk:=qh (Below.heap' hb3 kk.out);have hS1:z8 w4 q n ka kc va vc ha hc∧w4.heap[MB]?=some (.cells #[.int .u64 ((m.s:Nat):Int),.int .u8 ((m.c:Nat):Int)] 90):=⟨hrr.out _ (hbw.out.trans (hb6.mono hbw.out.size)),Below.heap' hb6 hma.out⟩;replace hb3:=qh hb3;go_wp2_with fail;refine hK.out _ _ hS1 (fun _=>?_);clear hHeld hK K;have hHeld:=hS1;clear hS1
     try simp only [Act.put,zs1,zs2,zs3]
     refine rdL 6 ?_;intro K hK;go_simp;go_at_call 96;refine (hKd.out _ (hbw.out.trans (hb6.mono hbw.out.size))).mono ?_;rintro z3 w5 ⟨rfl,hb3⟩;have hb7:=hb6.trans (hb3.mono hb6.size);replace kk:=qh (Below.heap' hb3 kk.out);have hS1:z8 w5 q n ka kc va vc ha hc∧w5.heap[MB]?=some (.cells #[.int .u64 ((m.s:Nat):Int),.int .u8 ((m.c:Nat):Int)] 90):=⟨hrr.out _ (hbw.out.trans (hb7.mono hbw.out.size)),Below.heap' hb7 hma.out⟩;replace hb3:=qh hb3;go_wp2_with fail;refine hK.out _ _ hS1 (fun _=>?_);clear hHeld hK K;have hHeld:=hS1;clear hS1
     try simp only [Act.put,zs1,zs2,zs3]
     refine tkL 7 ?_;refine tkL 8 ?_;refine tkL 9 ?_;have kk6:((w5.setCell ⟨nb,0,none⟩ (.int .i64 z.1.1)).setCell ⟨nb,1,none⟩ (.int .u64 z.1.2)).heap[nb]?=some (.cells #[.int .i64 z.1.1,.int .u64 z.1.2] 71):=by rw [heap_set_same (heap_set_same kk.out 0 _) 1 _];rfl
     have hu8:Upd [nb] w5 ((w5.setCell ⟨nb,0,none⟩ (.int .i64 z.1.1)).setCell ⟨nb,1,none⟩ (.int .u64 z.1.2)):=((Upd.refl [nb] w5).setCell (p:=⟨nb,0,none⟩) (by simp) _).setCell (p:=⟨nb,1,none⟩) (by simp) _;have hb8:Below w1.heap.size w1 ((w5.setCell ⟨nb,0,none⟩ (.int .i64 z.1.1)).setCell ⟨nb,1,none⟩ (.int .u64 z.1.2)):=hb7.trans (hu8.below hb7.size (fun x hx=>by rw [List.mem_singleton.1 hx];exact hge.out));clear hu8;have hS1:z8 ((w5.setCell ⟨nb,0,none⟩ (.int .i64 z.1.1)).setCell ⟨nb,1,none⟩ (.int .u64 z.1.2)) q n ka kc va vc ha hc∧((w5.setCell ⟨nb,0,none⟩ (.int .i64 z.1.1)).setCell ⟨nb,1,none⟩ (.int .u64 z.1.2)).heap[MB]?=some (.cells #[.int .u64 ((m.s:Nat):Int),.int .u8 ((m.c:Nat):Int)] 90):=⟨hrr.out _ (hbw.out.trans (hb8.mono hbw.out.size)),Below.heap' hb8 hma.out⟩;replace hS1:=qh hS1;replace kk6:=qh kk6;replace hb8:=qh hb8;obtain ⟨b0,b1,bq,bf0,bf1⟩:=box2 kk.out;refine rdL 11 ?_;intro K hK;go_simp;replace hS1:=hS1.out;refine hK.out _ _ hS1 (fun _=>?_);clear hHeld hK K;have hHeld:=hS1;clear hS1
     try simp only [Act.put,zs1,zs2,zs3]
     refine tkL 12 ?_;refine wpAnyH_done (by kernel_rfl) ?_ _
     try simp only [Exit.then]
     clear hHeld b0 b1 bq bf0 bf1;generalize ((w5.setCell ⟨nb,0,none⟩ (.int .i64 z.1.1)).setCell ⟨nb,1,none⟩ (.int .u64 z.1.2))=w6 at *;have hBa6:=hBa.out.trans (hb8.out.mono hBa.out.size);have hrw6:=hrw.out.below hb8.out;obtain ⟨g0,g1,gq,-,-⟩:=box2 kk6.out;have hA2:Below w6.heap.size w6 (w6.alloc (.cells #[.int .i64 z.1.1,.int .u64 z.1.2] 71)):=(Below.refl _ _).alloc (Nat.le_refl _) _;have hr5:=qh (hrw6.below hA2);have hs5:=SrcOf.one w6 71 [.int .i64 z.1.1,.int .u64 z.1.2] (by intro y hy;simp at hy;rcases hy with rfl | rfl <;> rfl);replace hs5:=qh hs5;have hbb:=qh (Nat.le_trans hBa6.size hA2.size);have hbel:=qh (hBa6.trans (hA2.mono hBa6.size));have hlm:Hid (((Ls.drop (i+1)).map (hdl key)).reverse.length+1≤maxLen):=qh (by rw [hlen.out];unfold maxLen;have:=hk.out;have:=hmj.out;omega);have hly:Hid ((((Ls.drop (i+1)).map (hdl key)).reverse.length+1)*16≤140737488355328):=qh (by rw [hlen.out];have:=hk.out;have:=hmj.out;omega);clear hA2 hBa6 hrw6
     go_wp2_with (at_builtin;refine wpList_append_row (f:=hcel) (M:=[z.1]) _ rfl _ _ 77 rfl wa.heap.size 71 i0 (.agg #[.int .i64 0,.int .u64 0]) 2 16 Tryz.underlying77 hi0 hzA hzB hzC rfl (by decide) (.slice (some ⟨b,0,none⟩) k cap) ((Ls.drop (i+1)).map (hdl key)).reverse rfl hr5.out _ rfl hs5.out hlm.out hly.out hbb.out ?_;intro a' c' w7 hrow6 hu6 hat6;replace hrow6:=qh hrow6;replace hu6:=qh hu6;replace hat6:=qh hat6)
     have hne:∃ b6,a'=some ⟨b6,0,none⟩:=by
      rcases hrow6.out.cases with ⟨_,h0⟩ | ⟨b6,cap6,e6,_⟩
      ·simp at h0
      ·injection e6 with e6
       exact ⟨b6,e6⟩
     obtain ⟨b6,rfl⟩:=hne;go_roundg (i+1)
     case rel =>
      have hkk:k=Ls.length - (i+1):=by have:=hk.out;have:=hmj.out;omega
      have hll2:((Ls.drop (i+1)).map (hdl key)).reverse.length=k:=hlen.out;have hrow7:=hrow6.out;rw [← path_step hS1x.out hz1.out,hll2] at hrow7;refine ⟨i,S,z,k,b6,c',rfl,by rw [hkk],hS1x.out,hz1.out,by have:=hk.out;have:=hmj.out;omega,hbel.out.trans (hu6.out.below hbb.out (fun y hy=>?_)),hrow7⟩;have:=mem_own hy;rw [hown.out] at this;injection this with this;rw [← this];exact hb1x.out
     case measure=>omega
end
open Go.RowKit
theorem node_places:bplaces Tryz.prog 100=some (((Tryz.prog.info? 100).bind (·.zero)).getD undef |>.cells,[(0,1),(1,111),(112,8)]):=by kernel_rfl
theorem node_zero:((((Tryz.prog.info? 100).bind (·.zero)).getD undef).cells)=(Value.bool false::(zlc++zic)).toArray:=by kernel_rfl
theorem build_leaf (cs:List Value) (hcl:cs.length=111):Tryz.prog.built 100 [(0,.bool true),(1,.agg cs.toArray)]=some (Value.bool true::(cs++zic)).toArray:=by
 rw [built_of node_places,node_zero]
 have hz:=zMn_len
 have hl:=zlc_len
 have hi:zic.length=8:=by kernel_rfl
 generalize zlc=z at hz hl ⊢
 generalize zic=y at hz hi ⊢
 rw [fill_cons (off:=0) (size:=1) (c:=[.bool true]) rfl rfl rfl (by rw [List.size_toArray];omega),fill_cons (off:=1) (size:=111) (c:=cs) rfl rfl hcl (by rw [seg_size (by simp only [List.size_toArray,List.length_cons,List.length_nil];omega),List.size_toArray];omega),fill_nil]
 congr 1
 unfold seg
 simp [hcl]
 rw [List.drop_append_of_le_length (by omega),List.drop_of_length_le (by omega),List.nil_append]
theorem build_inn (ic:List Value) (hil:ic.length=8):Tryz.prog.built 100 [(2,.agg ic.toArray)]=some (Value.bool false::(zlc++ic)).toArray:=by
 rw [built_of node_places,node_zero]
 have hz:=zMn_len
 have hl:=zlc_len
 have hi:zic.length=8:=by kernel_rfl
 generalize zlc=z at hz hl ⊢
 generalize zic=y at hz hi ⊢
 rw [fill_cons (off:=112) (size:=8) (c:=ic) rfl rfl hil (by rw [List.size_toArray];omega),fill_nil]
 congr 1
 unfold seg
 simp [hil,hl]
 omega
theorem build_raw (b:Bool):Tryz.prog.built 100 [(0,.bool b)]=some (Value.bool b::(zlc++zic)).toArray:=by
 cases b <;> kernel_rfl
open Go.RowKit
def newN:ND:=⟨.leaf newLF,.bool true::(lfc newLF++zic),[]⟩
theorem newN_ok (w:World) (ρ:Nat→Nat):NOK w ρ newN :=
 ⟨by show (Value.bool true::(lfc newLF++zic)).length=120;rw [List.length_cons,List.length_append,lfc_len newLF_ok.S];rfl,fun q hq=>(by cases hq),fun q hq=>(by cases hq),fun f hf=>by injection hf with hf;subst hf;exact ⟨newLF_ok,rfl⟩,fun b hb=>by cases hb⟩
theorem TEv.own0 {w w1 w':World} {T T1:TS} {S:List Nat} (h:TEv w w1 T T1) (hu:Upd S w1 w') (hS:∀ q,q∈S→w.heap.size≤q):TEv w w' T T1 :=
 ⟨⟨hu.os.trans h.ru.os,hu.tape.trans h.ru.tape,hu.output.trans h.ru.output,Nat.le_trans h.ru.size hu.size,fun k hk hn=>(hu.block k (Nat.lt_of_lt_of_le hk h.ru.size) (fun hm=>by have:=hS k hm;omega)).trans (h.ru.block k hk hn),h.ru.role,fun k hk=>h.ru.far k (Nat.le_trans hu.size hk)⟩,h.P,h.i,h.t,h.a,h.m,h.dl,h.dj,h.fl,h.et⟩
set_option maxRecDepth 100000 in
set_option maxHeartbeats 700000 in
theorem AM.layer {w0 w : World} {T : TS} (h : AM w0 w T) (hfr : true ∈ T.free) (hly : T.ly ≤ 1000000000) : Calls Tryz.prog 47 #[.pointer (some ⟨T.t, 0, none⟩)] w fun e w' =>
    ∃ g:Hd,(∀ z,z∈T.F→z.1≠g)∧e=.returned (.tuple #[hV g,.int .i64 0])∧∃ T',AM w0 w' T'∧TEv w w' T T'∧T'.F=T.F++[(g,newN)]∧T'.n=T.n∧T'.ly=T.ly+1∧T'.r=T.r∧T'.free.count true+1=T.free.count true:=by
 have c1:=h.cells.2.1
 obtain ⟨A,hA⟩:∃ a,a=T.d.A.a:=⟨_,rfl⟩
 rw [← hA] at c1
 have hq:=block_lt_of_cell c1
 have hNw:=qh fun W=>lfNew_any W
 have hbl:=qh (build_leaf (lfc newLF) (lfc_len newLF_ok.S))
 have hAl:=qh fun W (hW:Below w.heap.size w W)=>(h.below hW).alloc newN (newN_ok W _) hfr
 unfold lfV at hNw
 rw [show newN.cs=Value.bool true::(lfc newLF++zic) from rfl] at hAl
 obtain ⟨cn,hcn⟩:∃ c,c=lfc newLF:=⟨_,rfl⟩
 rw [← hcn] at hNw hbl hAl
 rw [← hA] at hAl
 obtain ⟨cz,hcz⟩:∃ c,c=Value.bool true::(cn++zic):=⟨_,rfl⟩
 rw [← hcz] at hbl hAl
 replace hcn:=qh hcn
 replace hcz:=qh hcz
 replace h:=qh h
 replace hA:=qh hA
 have hbz:=(Below.refl w.heap.size w).alloc (Nat.le_refl _) (.cells #[.int .i64 0,.int .u64 0] 71)
 obtain ⟨wa,hwa⟩:∃ W,W=w.alloc (.cells #[.int .i64 0,.int .u64 0] 71):=⟨_,rfl⟩
 rw [← hwa] at hbz
 have c1':=keep hbz c1
 have hzb:wa.heap[w.heap.size]?=some (.cells #[.int .i64 0,.int .u64 0] 71):=by rw [hwa];exact heap_alloc_new _ _
 replace hwa:=qh hwa
 replace hbz:=qh hbz
 replace hzb:=qh hzb
 go_enter Tryz.func47,Tryz.ntmps47
 go_upto_region 1 with fail
 rw [← hwa.out]
 refine wp_region_held_drew (S:=fun W'=>W'.cell? ⟨T.t,1,none⟩=some (.pointer (some ⟨A,0,none⟩))) rfl c1' (fun hHeld=>?_)
 refine tkL 0 ?_
 refine tkL 1 ?_
 refine tkL 2 ?_
 refine tkL 3 ?_ (hz:=by intro w hSw;(try dsimp only at hSw);have e1:=hSw;exact zf)
 refine wpAnyH_ready (rs:=[4,10]) (by kernel_rfl) (by simp) ?_
 refine (AllReadyH.cons rfl (fun K hK=>?_) (AllReadyH.cons rfl (fun K hK=>?_) AllReadyH.nil))
 ·skip
  have hb0:=hbz.out.drew;go_simp;go_at_call 91;refine (hNw.out _).mono ?_;rintro z3 w3 ⟨rfl,hb3⟩;have hb5:=hb0.trans (hb3.mono hb0.size);have hS1:w3.cell? ⟨T.t,1,none⟩=some (.pointer (some ⟨A,0,none⟩)):=keep hb5 c1;replace hb3:=qh hb3;go_wp2_with fail;refine hK.out _ _ hS1 (fun _=>?_);clear hHeld hK K;have hHeld:=hS1;clear hS1
  try simp only [Act.put,zs1,zs2,zs3]
  refine ykL 5 ?_ (hy:=yieldsIf_build (by rfl) 100 _ rfl [(0,.bool true),(1,.agg cn.toArray)] (by rfl) cz.toArray hbl.out);refine wpAnyH_ready (rs:=[6,10]) (by kernel_rfl) (by simp) ?_;refine (AllReadyH.cons rfl (fun K hK=>?_) (AllReadyH.cons rfl (fun K hK=>?_) AllReadyH.nil))
  ·skip
   have hzw:Hid (w3.heap[w.heap.size]?=some (.cells #[.int .i64 0,.int .u64 0] 71)):=qh (Below.heap' hb3.out (show wa.drew.heap[w.heap.size]?=_ from hzb.out));go_simp;go_at_call 90;obtain ⟨g,hg,hC⟩:=hAl.out _ hb5;refine hC.mono ?_;rintro z3 w4 ⟨rfl,T2,t1,t2,t3,t4,t5,t6,t7⟩;have ev2:TEv w w4 T T2:=(TEv.below h.out hb5).trans t2;have hS1:w4.cell? ⟨T.t,1,none⟩=some (.pointer (some ⟨A,0,none⟩)):=by have:=t1.cells.2.1;rw [t2.t,t2.a,← hA.out] at this;exact this
   have hz2:Hid (w4.heap[w.heap.size]?=some (.cells #[.int .i64 0,.int .u64 0] 71)):=qh (t2.ru.heap hzw.out (by rw [h.out.bw.ro.far _ (Nat.le_refl _)];simp;omega));have hzr:Hid (T2.ρ w.heap.size=0):=qh (by rw [t2.ru.role _ (heap_lt hzw.out)];exact h.out.bw.ro.far _ (Nat.le_refl _));replace t1:=qh t1;replace t2:=qh t2;replace t3:=qh t3;replace t4:=qh t4;replace t5:=qh t5;replace t6:=qh t6;replace t7:=qh t7;replace ev2:=qh ev2;replace hg:=qh hg;clear hC;go_wp2_with fail;refine hK.out _ _ hS1 (fun _=>?_);clear hHeld hK K;have hHeld:=hS1;clear hS1
   try simp only [Act.put,zs1,zs2,zs3]
   refine tkL 7 ?_;refine tkL 8 ?_;refine tkL 9 ?_;refine rdL 10 ?_;intro K hK;go_simp;have bx:Below w4.heap.size w4 (w4.alloc (.cells #[.int .i64 0,.int .u64 0] 71)):=(Below.refl _ _).alloc (Nat.le_refl _) _;have kk:(w4.alloc (.cells #[.int .i64 0,.int .u64 0] 71)).heap[w4.heap.size]?=_:=heap_alloc_new w4 (.cells #[.int .i64 0,.int .u64 0] 71);have t1b:=t1.out.below bx;have evb:=ev2.out.own0 (Upd.of_below (S:=[]) bx) (by simp);have hzb2:=Below.heap' bx hz2.out;have hr0:T2.ρ w4.heap.size=0:=t1.out.bw.ro.far _ (Nat.le_refl _);have hge:w.heap.size < w4.heap.size:=heap_lt hz2.out;generalize (w4.alloc (.cells #[.int .i64 0,.int .u64 0] 71))=w5 at *;obtain ⟨nb,hnb⟩:∃ x,x=w4.heap.size:=⟨_,rfl⟩;rw [← hnb] at kk hr0 hge ⊢;clear bx;have hS1:w5.cell? ⟨T.t,1,none⟩=some (.pointer (some ⟨A,0,none⟩)):=by have:=t1b.cells.2.1;rw [evb.t,evb.a,← hA.out] at this;exact this
   replace hnb:=qh hnb;replace kk:=qh kk;replace t1b:=qh t1b;replace evb:=qh evb;replace hzb2:=qh hzb2;replace hr0:=qh hr0;replace hge:=qh hge;refine hK.out _ _ hS1 (fun _=>?_);clear hHeld hK K;have hHeld:=hS1;clear hS1
   try simp only [Act.put,zs1,zs2,zs3]
   have kk6:((w5.setCell ⟨nb,0,none⟩ (.int .i64 g.1)).setCell ⟨nb,1,none⟩ (.int .u64 g.2)).heap[nb]?=some (.cells #[.int .i64 g.1,.int .u64 g.2] 71):=by rw [heap_set_same (heap_set_same kk.out 0 _) 1 _];rfl
   have hu8:Upd [nb] w5 ((w5.setCell ⟨nb,0,none⟩ (.int .i64 g.1)).setCell ⟨nb,1,none⟩ (.int .u64 g.2)):=((Upd.refl [nb] w5).setCell (p:=⟨nb,0,none⟩) (by simp) _).setCell (p:=⟨nb,1,none⟩) (by simp) _;have t1c:=t1b.out.own0 hu8 (fun x hx=>by rw [List.mem_singleton.1 hx];exact ⟨Nat.le_trans h.out.bw.ro.bel.size (Nat.le_of_lt hge.out),hr0.out⟩);have evc:=evb.out.own0 hu8 (fun x hx=>by rw [List.mem_singleton.1 hx];exact Nat.le_of_lt hge.out);have hzc:=hu8.heap hzb2.out (by simp only [List.mem_singleton];exact Nat.ne_of_lt hge.out);clear hu8;have hS1:((w5.setCell ⟨nb,0,none⟩ (.int .i64 g.1)).setCell ⟨nb,1,none⟩ (.int .u64 g.2)).cell? ⟨T.t,1,none⟩=some (.pointer (some ⟨A,0,none⟩)):=by have:=t1c.cells.2.1;rw [evc.t,evc.a,← hA.out] at this;exact this
   replace hS1:=qh hS1;replace kk6:=qh kk6;replace t1c:=qh t1c;replace evc:=qh evc;replace hzc:=qh hzc;obtain ⟨b0,b1,bq,bf0,bf1⟩:=box2 kk.out;refine rdL 11 ?_;intro K hK;go_simp;replace hS1:=hS1.out;refine hK.out _ _ hS1 (fun _=>?_);clear hHeld hK K;have hHeld:=hS1;clear hS1
   try simp only [Act.put,zs1,zs2,zs3]
   refine tkL 12 ?_;refine wpAnyH_done (by kernel_rfl) ?_ _
   try simp only [Exit.then]
   clear hHeld b0 b1 bq bf0 bf1;generalize ((w5.setCell ⟨nb,0,none⟩ (.int .i64 g.1)).setCell ⟨nb,1,none⟩ (.int .u64 g.2))=w6 at *;have hwr:IntKind.i64.wrap (((T2.ly:Nat):Int)+1)=((T2.ly:Nat):Int)+1:=IntWalk.i64_in _ (by rw [t5.out];omega);have hblk:w6.heap[T.t]?=some (.cells (treeC T2.P.1 T2.d.A.a T2.r T2.n T2.ly) 73):=by have:=t1c.out.blk;rw [evc.out.t] at this;exact this
   have c5:w6.cell? ⟨T.t,5,none⟩=some (.int .i64 ((T2.ly:Nat):Int)):=by rw [cell_of_heap hblk];rfl
   have cf:=frozen_of_heap hblk;have ctl:=heap_lt hblk;obtain ⟨g0,g1,gq,gf0,gf1⟩:=box2 kk6.out;obtain ⟨u0,u1,uq,uf0,uf1⟩:=box2 hzc.out;have ht1:T.t≠w.heap.size:=Nat.ne_of_lt hq;have ht2:T.t≠nb:=Nat.ne_of_lt (Nat.lt_trans hq hge.out);have ht3:nb≠T.t:=ht2.symm;have ht4:w.heap.size≠T.t:=ht1.symm;have hu7:Upd [T2.t] w6 (w6.setCell ⟨T.t,5,none⟩ (.int .i64 ((T2.ly:Nat)+1))):=(Upd.refl [T2.t] w6).setCell (p:=⟨T.t,5,none⟩) (by rw [evc.out.t];simp) _;have hb7:(w6.setCell ⟨T.t,5,none⟩ (.int .i64 ((T2.ly:Nat)+1))).heap[T2.t]?=some (.cells (treeC T2.P.1 T2.d.A.a T2.r T2.n (T2.ly+1)) 73):=by rw [evc.out.t,heap_set_same hblk 5 _];rfl
   obtain ⟨a7,ev7⟩:=t1c.out.own T2.r T2.n (T2.ly+1) hu7 hb7;have hz7:(w6.setCell ⟨T.t,5,none⟩ (.int .i64 ((T2.ly:Nat)+1))).heap[w.heap.size]?=_:=hu7.heap hzc.out (by rw [evc.out.t];simpa using ht4);have hu8:Upd [w.heap.size] (w6.setCell ⟨T.t,5,none⟩ (.int .i64 ((T2.ly:Nat)+1))) (((w6.setCell ⟨T.t,5,none⟩ (.int .i64 ((T2.ly:Nat)+1))).setCell ⟨w.heap.size,0,none⟩ (.int .i64 g.1)).setCell ⟨w.heap.size,1,none⟩ (.int .u64 g.2)):=((Upd.refl [w.heap.size] _).setCell (p:=⟨w.heap.size,0,none⟩) (by simp) _).setCell (p:=⟨w.heap.size,1,none⟩) (by simp) _;have hz8:(((w6.setCell ⟨T.t,5,none⟩ (.int .i64 ((T2.ly:Nat)+1))).setCell ⟨w.heap.size,0,none⟩ (.int .i64 g.1)).setCell ⟨w.heap.size,1,none⟩ (.int .u64 g.2)).heap[w.heap.size]?=some (.cells #[.int .i64 g.1,.int .u64 g.2] 71):=by rw [heap_set_same (heap_set_same hz7 0 _) 1 _];rfl
   have a8:=qh (a7.own0 hu8 (fun x hx=>by rw [List.mem_singleton.1 hx];exact ⟨h.out.bw.ro.bel.size,hzr.out⟩));have ev8:=qh ((evc.out.trans ev7).own0 hu8 (fun x hx=>by rw [List.mem_singleton.1 hx];exact Nat.le_refl _));have hld:=qh (run_loadVar_mid (P:=Tryz.prog) _ w.heap.size 0 71 [.int .i64 g.1,.int .u64 g.2] _ (range_of_heap hz8) Tryz.underlying71 rfl (by kernel_rfl));clear hu7 hb7 a7 ev7 hz7 hu8 hz8 hblk;go_wp2_with fail;refine bodyPost_ret (v:=.tuple #[.agg #[.int .i64 g.1,.int .u64 g.2],.int .i64 0]) (by simp [results,Tryz.results47,asAddr,hld.out]) rfl ⟨g,hg.out,rfl,_,a8.out,ev8.out,t3.out,t4.out,by show T2.ly+1=_;rw [t5.out],t6.out,t7.out⟩
  ·skip
   go_simp;have bx:Below w3.heap.size w3 (w3.alloc (.cells #[.int .i64 0,.int .u64 0] 71)):=((Below.refl _ _).alloc (Nat.le_refl _) _);have kk:(w3.alloc (.cells #[.int .i64 0,.int .u64 0] 71)).heap[w3.heap.size]?=_:=heap_alloc_new w3 (.cells #[.int .i64 0,.int .u64 0] 71);have hb6:=hb5.trans (bx.mono hb5.size);have hzw:=Below.heap' bx (Below.heap' hb3.out (show wa.drew.heap[w.heap.size]?=_ from hzb.out));have hge:w.heap.size < w3.heap.size:=heap_lt (Below.heap' hb3.out (show wa.drew.heap[w.heap.size]?=_ from hzb.out));generalize (w3.alloc (.cells #[.int .i64 0,.int .u64 0] 71))=w4 at *;obtain ⟨nb,hnb⟩:∃ x,x=w3.heap.size:=⟨_,rfl⟩;rw [← hnb] at kk hge ⊢;clear bx;have hnl:=qh (heap_lt kk);have hS1:w4.cell? ⟨T.t,1,none⟩=some (.pointer (some ⟨A,0,none⟩)):=keep hb6 c1;replace hnb:=qh hnb;replace kk:=qh kk;replace hzw:=qh hzw;replace hge:=qh hge;refine hK.out _ _ hS1 (fun _=>?_);clear hHeld hK K;have hHeld:=hS1;clear hS1
   try simp only [Act.put,zs1,zs2,zs3]
   refine rdL 6 ?_;intro K hK;go_simp;go_at_call 90;obtain ⟨g,hg,hC⟩:=hAl.out _ hb6;refine hC.mono ?_;rintro z3 w5 ⟨rfl,T2,t1,t2,t3,t4,t5,t6,t7⟩;have ev2:TEv w w5 T T2:=(TEv.below h.out hb6).trans t2;have hS1:w5.cell? ⟨T.t,1,none⟩=some (.pointer (some ⟨A,0,none⟩)):=by have:=t1.cells.2.1;rw [t2.t,t2.a,← hA.out] at this;exact this
   have hz2:Hid (w5.heap[w.heap.size]?=some (.cells #[.int .i64 0,.int .u64 0] 71)):=qh (t2.ru.heap hzw.out (by rw [h.out.bw.ro.far _ (Nat.le_refl _)];simp;omega));have hzr:Hid (T2.ρ w.heap.size=0):=qh (by rw [t2.ru.role _ (heap_lt hzw.out)];exact h.out.bw.ro.far _ (Nat.le_refl _));replace kk:=qh (t2.ru.heap kk.out (by rw [h.out.bw.ro.far _ (Nat.le_of_lt hge.out)];simp;omega));have hr0:Hid (T2.ρ nb=0):=qh (by rw [t2.ru.role _ hnl.out];exact h.out.bw.ro.far _ (Nat.le_of_lt hge.out));replace t1:=qh t1;replace t2:=qh t2;replace t3:=qh t3;replace t4:=qh t4;replace t5:=qh t5;replace t6:=qh t6;replace t7:=qh t7;replace ev2:=qh ev2;replace hg:=qh hg;clear hC;go_wp2_with fail;refine hK.out _ _ hS1 (fun _=>?_);clear hHeld hK K;have hHeld:=hS1;clear hS1
   try simp only [Act.put,zs1,zs2,zs3]
   have t1b:=t1;have evb:=ev2;have hzb2:=hz2;refine tkL 7 ?_;refine tkL 8 ?_;refine tkL 9 ?_;have kk6:((w5.setCell ⟨nb,0,none⟩ (.int .i64 g.1)).setCell ⟨nb,1,none⟩ (.int .u64 g.2)).heap[nb]?=some (.cells #[.int .i64 g.1,.int .u64 g.2] 71):=by rw [heap_set_same (heap_set_same kk.out 0 _) 1 _];rfl
   have hu8:Upd [nb] w5 ((w5.setCell ⟨nb,0,none⟩ (.int .i64 g.1)).setCell ⟨nb,1,none⟩ (.int .u64 g.2)):=((Upd.refl [nb] w5).setCell (p:=⟨nb,0,none⟩) (by simp) _).setCell (p:=⟨nb,1,none⟩) (by simp) _;have t1c:=t1b.out.own0 hu8 (fun x hx=>by rw [List.mem_singleton.1 hx];exact ⟨Nat.le_trans h.out.bw.ro.bel.size (Nat.le_of_lt hge.out),hr0.out⟩);have evc:=evb.out.own0 hu8 (fun x hx=>by rw [List.mem_singleton.1 hx];exact Nat.le_of_lt hge.out);have hzc:=hu8.heap hzb2.out (by simp only [List.mem_singleton];exact Nat.ne_of_lt hge.out);clear hu8;have hS1:((w5.setCell ⟨nb,0,none⟩ (.int .i64 g.1)).setCell ⟨nb,1,none⟩ (.int .u64 g.2)).cell? ⟨T.t,1,none⟩=some (.pointer (some ⟨A,0,none⟩)):=by have:=t1c.cells.2.1;rw [evc.t,evc.a,← hA.out] at this;exact this
   replace hS1:=qh hS1;replace kk6:=qh kk6;replace t1c:=qh t1c;replace evc:=qh evc;replace hzc:=qh hzc;obtain ⟨b0,b1,bq,bf0,bf1⟩:=box2 kk.out;refine rdL 11 ?_;intro K hK;go_simp;replace hS1:=hS1.out;refine hK.out _ _ hS1 (fun _=>?_);clear hHeld hK K;have hHeld:=hS1;clear hS1
   try simp only [Act.put,zs1,zs2,zs3]
   refine tkL 12 ?_;refine wpAnyH_done (by kernel_rfl) ?_ _
   try simp only [Exit.then]
   clear hHeld b0 b1 bq bf0 bf1;generalize ((w5.setCell ⟨nb,0,none⟩ (.int .i64 g.1)).setCell ⟨nb,1,none⟩ (.int .u64 g.2))=w6 at *;have hwr:IntKind.i64.wrap (((T2.ly:Nat):Int)+1)=((T2.ly:Nat):Int)+1:=IntWalk.i64_in _ (by rw [t5.out];omega);have hblk:w6.heap[T.t]?=some (.cells (treeC T2.P.1 T2.d.A.a T2.r T2.n T2.ly) 73):=by have:=t1c.out.blk;rw [evc.out.t] at this;exact this
   have c5:w6.cell? ⟨T.t,5,none⟩=some (.int .i64 ((T2.ly:Nat):Int)):=by rw [cell_of_heap hblk];rfl
   have cf:=frozen_of_heap hblk;have ctl:=heap_lt hblk;obtain ⟨g0,g1,gq,gf0,gf1⟩:=box2 kk6.out;obtain ⟨u0,u1,uq,uf0,uf1⟩:=box2 hzc.out;have ht1:T.t≠w.heap.size:=Nat.ne_of_lt hq;have ht2:T.t≠nb:=Nat.ne_of_lt (Nat.lt_trans hq hge.out);have ht3:nb≠T.t:=ht2.symm;have ht4:w.heap.size≠T.t:=ht1.symm;have hu7:Upd [T2.t] w6 (w6.setCell ⟨T.t,5,none⟩ (.int .i64 ((T2.ly:Nat)+1))):=(Upd.refl [T2.t] w6).setCell (p:=⟨T.t,5,none⟩) (by rw [evc.out.t];simp) _;have hb7:(w6.setCell ⟨T.t,5,none⟩ (.int .i64 ((T2.ly:Nat)+1))).heap[T2.t]?=some (.cells (treeC T2.P.1 T2.d.A.a T2.r T2.n (T2.ly+1)) 73):=by rw [evc.out.t,heap_set_same hblk 5 _];rfl
   obtain ⟨a7,ev7⟩:=t1c.out.own T2.r T2.n (T2.ly+1) hu7 hb7;have hz7:(w6.setCell ⟨T.t,5,none⟩ (.int .i64 ((T2.ly:Nat)+1))).heap[w.heap.size]?=_:=hu7.heap hzc.out (by rw [evc.out.t];simpa using ht4);have hu8:Upd [w.heap.size] (w6.setCell ⟨T.t,5,none⟩ (.int .i64 ((T2.ly:Nat)+1))) (((w6.setCell ⟨T.t,5,none⟩ (.int .i64 ((T2.ly:Nat)+1))).setCell ⟨w.heap.size,0,none⟩ (.int .i64 g.1)).setCell ⟨w.heap.size,1,none⟩ (.int .u64 g.2)):=((Upd.refl [w.heap.size] _).setCell (p:=⟨w.heap.size,0,none⟩) (by simp) _).setCell (p:=⟨w.heap.size,1,none⟩) (by simp) _;have hz8:(((w6.setCell ⟨T.t,5,none⟩ (.int .i64 ((T2.ly:Nat)+1))).setCell ⟨w.heap.size,0,none⟩ (.int .i64 g.1)).setCell ⟨w.heap.size,1,none⟩ (.int .u64 g.2)).heap[w.heap.size]?=some (.cells #[.int .i64 g.1,.int .u64 g.2] 71):=by rw [heap_set_same (heap_set_same hz7 0 _) 1 _];rfl
   have a8:=qh (a7.own0 hu8 (fun x hx=>by rw [List.mem_singleton.1 hx];exact ⟨h.out.bw.ro.bel.size,hzr.out⟩));have ev8:=qh ((evc.out.trans ev7).own0 hu8 (fun x hx=>by rw [List.mem_singleton.1 hx];exact Nat.le_refl _));have hld:=qh (run_loadVar_mid (P:=Tryz.prog) _ w.heap.size 0 71 [.int .i64 g.1,.int .u64 g.2] _ (range_of_heap hz8) Tryz.underlying71 rfl (by kernel_rfl));clear hu7 hb7 a7 ev7 hz7 hu8 hz8 hblk;go_wp2_with fail;refine bodyPost_ret (v:=.tuple #[.agg #[.int .i64 g.1,.int .u64 g.2],.int .i64 0]) (by simp [results,Tryz.results47,asAddr,hld.out]) rfl ⟨g,hg.out,rfl,_,a8.out,ev8.out,t3.out,t4.out,by show T2.ly+1=_;rw [t5.out],t6.out,t7.out⟩
 ·skip
  have hb0:=hbz.out;go_simp;have bx:Below wa.heap.size wa (wa.alloc (.cells #[.int .i64 0,.int .u64 0] 71)).drew:=((Below.refl _ _).alloc (Nat.le_refl _) _).drew;have kk:(wa.alloc (.cells #[.int .i64 0,.int .u64 0] 71)).drew.heap[wa.heap.size]?=_:=heap_alloc_new wa (.cells #[.int .i64 0,.int .u64 0] 71);have hb5:=hb0.trans (bx.mono hb0.size);have hzw:=Below.heap' bx (hzb.out);have hge:w.heap.size < wa.heap.size:=heap_lt (hzb.out);generalize (wa.alloc (.cells #[.int .i64 0,.int .u64 0] 71)).drew=w3 at *;obtain ⟨nb,hnb⟩:∃ x,x=wa.heap.size:=⟨_,rfl⟩;rw [← hnb] at kk hge ⊢;clear bx;have hnl:=qh (heap_lt kk);have hS1:w3.cell? ⟨T.t,1,none⟩=some (.pointer (some ⟨A,0,none⟩)):=keep hb5 c1;replace hnb:=qh hnb;replace kk:=qh kk;replace hzw:=qh hzw;replace hge:=qh hge;refine hK.out _ _ hS1 (fun _=>?_);clear hHeld hK K;have hHeld:=hS1;clear hS1
  try simp only [Act.put,zs1,zs2,zs3]
  refine rdL 4 ?_;intro K hK;go_simp;go_at_call 91;refine (hNw.out _).mono ?_;rintro z3 w4 ⟨rfl,hb3⟩;have hb6:=hb5.trans (hb3.mono hb5.size);have hS1:w4.cell? ⟨T.t,1,none⟩=some (.pointer (some ⟨A,0,none⟩)):=keep hb6 c1;replace kk:=qh (Below.heap' hb3 kk.out);replace hnl:=qh (Nat.lt_of_lt_of_le hnl.out hb3.size);replace hzw:=qh (Below.heap' hb3 hzw.out);replace hb3:=qh hb3;go_wp2_with fail;refine hK.out _ _ hS1 (fun _=>?_);clear hHeld hK K;have hHeld:=hS1;clear hS1
  try simp only [Act.put,zs1,zs2,zs3]
  refine ykL 5 ?_ (hy:=yieldsIf_build (by rfl) 100 _ rfl [(0,.bool true),(1,.agg cn.toArray)] (by rfl) cz.toArray hbl.out);refine rdL 6 ?_;intro K hK;go_simp;go_at_call 90;obtain ⟨g,hg,hC⟩:=hAl.out _ hb6;refine hC.mono ?_;rintro z3 w5 ⟨rfl,T2,t1,t2,t3,t4,t5,t6,t7⟩;have ev2:TEv w w5 T T2:=(TEv.below h.out hb6).trans t2;have hS1:w5.cell? ⟨T.t,1,none⟩=some (.pointer (some ⟨A,0,none⟩)):=by have:=t1.cells.2.1;rw [t2.t,t2.a,← hA.out] at this;exact this
  have hz2:Hid (w5.heap[w.heap.size]?=some (.cells #[.int .i64 0,.int .u64 0] 71)):=qh (t2.ru.heap hzw.out (by rw [h.out.bw.ro.far _ (Nat.le_refl _)];simp;omega));have hzr:Hid (T2.ρ w.heap.size=0):=qh (by rw [t2.ru.role _ (heap_lt hzw.out)];exact h.out.bw.ro.far _ (Nat.le_refl _));replace kk:=qh (t2.ru.heap kk.out (by rw [h.out.bw.ro.far _ (Nat.le_of_lt hge.out)];simp;omega));have hr0:Hid (T2.ρ nb=0):=qh (by rw [t2.ru.role _ hnl.out];exact h.out.bw.ro.far _ (Nat.le_of_lt hge.out));replace t1:=qh t1;replace t2:=qh t2;replace t3:=qh t3;replace t4:=qh t4;replace t5:=qh t5;replace t6:=qh t6;replace t7:=qh t7;replace ev2:=qh ev2;replace hg:=qh hg;clear hC;go_wp2_with fail;refine hK.out _ _ hS1 (fun _=>?_);clear hHeld hK K;have hHeld:=hS1;clear hS1
  try simp only [Act.put,zs1,zs2,zs3]
  have t1b:=t1;have evb:=ev2;have hzb2:=hz2;refine tkL 7 ?_;refine tkL 8 ?_;refine tkL 9 ?_;have kk6:((w5.setCell ⟨nb,0,none⟩ (.int .i64 g.1)).setCell ⟨nb,1,none⟩ (.int .u64 g.2)).heap[nb]?=some (.cells #[.int .i64 g.1,.int .u64 g.2] 71):=by rw [heap_set_same (heap_set_same kk.out 0 _) 1 _];rfl
  have hu8:Upd [nb] w5 ((w5.setCell ⟨nb,0,none⟩ (.int .i64 g.1)).setCell ⟨nb,1,none⟩ (.int .u64 g.2)):=((Upd.refl [nb] w5).setCell (p:=⟨nb,0,none⟩) (by simp) _).setCell (p:=⟨nb,1,none⟩) (by simp) _;have t1c:=t1b.out.own0 hu8 (fun x hx=>by rw [List.mem_singleton.1 hx];exact ⟨Nat.le_trans h.out.bw.ro.bel.size (Nat.le_of_lt hge.out),hr0.out⟩);have evc:=evb.out.own0 hu8 (fun x hx=>by rw [List.mem_singleton.1 hx];exact Nat.le_of_lt hge.out);have hzc:=hu8.heap hzb2.out (by simp only [List.mem_singleton];exact Nat.ne_of_lt hge.out);clear hu8;have hS1:((w5.setCell ⟨nb,0,none⟩ (.int .i64 g.1)).setCell ⟨nb,1,none⟩ (.int .u64 g.2)).cell? ⟨T.t,1,none⟩=some (.pointer (some ⟨A,0,none⟩)):=by have:=t1c.cells.2.1;rw [evc.t,evc.a,← hA.out] at this;exact this
  replace hS1:=qh hS1;replace kk6:=qh kk6;replace t1c:=qh t1c;replace evc:=qh evc;replace hzc:=qh hzc;obtain ⟨b0,b1,bq,bf0,bf1⟩:=box2 kk.out;refine rdL 11 ?_;intro K hK;go_simp;replace hS1:=hS1.out;refine hK.out _ _ hS1 (fun _=>?_);clear hHeld hK K;have hHeld:=hS1;clear hS1
  try simp only [Act.put,zs1,zs2,zs3]
  refine tkL 12 ?_;refine wpAnyH_done (by kernel_rfl) ?_ _
  try simp only [Exit.then]
  clear hHeld b0 b1 bq bf0 bf1;generalize ((w5.setCell ⟨nb,0,none⟩ (.int .i64 g.1)).setCell ⟨nb,1,none⟩ (.int .u64 g.2))=w6 at *;have hwr:IntKind.i64.wrap (((T2.ly:Nat):Int)+1)=((T2.ly:Nat):Int)+1:=IntWalk.i64_in _ (by rw [t5.out];omega);have hblk:w6.heap[T.t]?=some (.cells (treeC T2.P.1 T2.d.A.a T2.r T2.n T2.ly) 73):=by have:=t1c.out.blk;rw [evc.out.t] at this;exact this
  have c5:w6.cell? ⟨T.t,5,none⟩=some (.int .i64 ((T2.ly:Nat):Int)):=by rw [cell_of_heap hblk];rfl
  have cf:=frozen_of_heap hblk;have ctl:=heap_lt hblk;obtain ⟨g0,g1,gq,gf0,gf1⟩:=box2 kk6.out;obtain ⟨u0,u1,uq,uf0,uf1⟩:=box2 hzc.out;have ht1:T.t≠w.heap.size:=Nat.ne_of_lt hq;have ht2:T.t≠nb:=Nat.ne_of_lt (Nat.lt_trans hq hge.out);have ht3:nb≠T.t:=ht2.symm;have ht4:w.heap.size≠T.t:=ht1.symm;have hu7:Upd [T2.t] w6 (w6.setCell ⟨T.t,5,none⟩ (.int .i64 ((T2.ly:Nat)+1))):=(Upd.refl [T2.t] w6).setCell (p:=⟨T.t,5,none⟩) (by rw [evc.out.t];simp) _;have hb7:(w6.setCell ⟨T.t,5,none⟩ (.int .i64 ((T2.ly:Nat)+1))).heap[T2.t]?=some (.cells (treeC T2.P.1 T2.d.A.a T2.r T2.n (T2.ly+1)) 73):=by rw [evc.out.t,heap_set_same hblk 5 _];rfl
  obtain ⟨a7,ev7⟩:=t1c.out.own T2.r T2.n (T2.ly+1) hu7 hb7;have hz7:(w6.setCell ⟨T.t,5,none⟩ (.int .i64 ((T2.ly:Nat)+1))).heap[w.heap.size]?=_:=hu7.heap hzc.out (by rw [evc.out.t];simpa using ht4);have hu8:Upd [w.heap.size] (w6.setCell ⟨T.t,5,none⟩ (.int .i64 ((T2.ly:Nat)+1))) (((w6.setCell ⟨T.t,5,none⟩ (.int .i64 ((T2.ly:Nat)+1))).setCell ⟨w.heap.size,0,none⟩ (.int .i64 g.1)).setCell ⟨w.heap.size,1,none⟩ (.int .u64 g.2)):=((Upd.refl [w.heap.size] _).setCell (p:=⟨w.heap.size,0,none⟩) (by simp) _).setCell (p:=⟨w.heap.size,1,none⟩) (by simp) _;have hz8:(((w6.setCell ⟨T.t,5,none⟩ (.int .i64 ((T2.ly:Nat)+1))).setCell ⟨w.heap.size,0,none⟩ (.int .i64 g.1)).setCell ⟨w.heap.size,1,none⟩ (.int .u64 g.2)).heap[w.heap.size]?=some (.cells #[.int .i64 g.1,.int .u64 g.2] 71):=by rw [heap_set_same (heap_set_same hz7 0 _) 1 _];rfl
  have a8:=qh (a7.own0 hu8 (fun x hx=>by rw [List.mem_singleton.1 hx];exact ⟨h.out.bw.ro.bel.size,hzr.out⟩));have ev8:=qh ((evc.out.trans ev7).own0 hu8 (fun x hx=>by rw [List.mem_singleton.1 hx];exact Nat.le_refl _));have hld:=qh (run_loadVar_mid (P:=Tryz.prog) _ w.heap.size 0 71 [.int .i64 g.1,.int .u64 g.2] _ (range_of_heap hz8) Tryz.underlying71 rfl (by kernel_rfl));clear hu7 hb7 a7 ev7 hz7 hu8 hz8 hblk;go_wp2_with fail;refine bodyPost_ret (v:=.tuple #[.agg #[.int .i64 g.1,.int .u64 g.2],.int .i64 0]) (by simp [results,Tryz.results47,asAddr,hld.out]) rfl ⟨g,hg.out,rfl,_,a8.out,ev8.out,t3.out,t4.out,by show T2.ly+1=_;rw [t5.out],t6.out,t7.out⟩
open Go.Lib
section
variable {β:Type}
def needL:Nat→List Nat→Nat
 | _,[]=>1
 | j,c::cs=>if c < cap j then 0 else 1+needL (j+1) cs
def needOf (j:Nat) (Ls:List (Lev β)) (key:Str):Nat:=needL j (Ls.map (kcount key))
theorem need_step {Ls:List (Lev β)} {key:Str} {i:Nat} {R:Lev β} {x:Hd×BN β} (hR:Ls[i]?=some R) (hx:atK R key=some x):needOf i (Ls.drop i) key=if x.2.keys.length < cap i then 0 else 1+needOf (i+1) (Ls.drop (i+1)) key:=by
 obtain ⟨hi,e⟩:=List.getElem?_eq_some_iff.1 hR
 unfold needOf
 rw [List.drop_eq_getElem_cons hi,e,List.map_cons,needL,kcount_of hx]
theorem needL_le:∀ (l:List Nat) (j:Nat),needL j l≤l.length+1
 | [],_=>by simp [needL]
 | c::cs,j=>by
  have:=needL_le cs (j+1);unfold needL;split <;> simp <;> omega
theorem need_le {Ls:List (Lev β)} {key:Str} {j:Nat}:needOf j Ls key≤Ls.length+1:=by
 unfold needOf
 have:=needL_le (Ls.map (kcount key)) j
 simpa using this
theorem csum_cons_lt (f:Str×β→Nat) {C:Cont β} {k:Str} {v:β} {p:Str×β} (h:slt p.1 k=true):((cput (p::C) k v).map f).sum=f p+((cput C k v).map f).sum:=by
 unfold cput
 rw [List.filter_cons,List.filter_cons,h,slt_asymm h]
 simp
theorem csum_put (f:Str×β→Nat):∀ {C:Cont β} {k:Str} {v:β},CSort C→((cput C k v).map f).sum+(match cget C k with | some o=>f (k,o) | none=>0)=(C.map f).sum+f (k,v)
 | [],k,v,_=>by simp [cput,cget]
 | p::C,k,v,h=>by
  obtain ⟨h1,h2⟩:=List.pairwise_cons.1 h
  cases h3:slt p.1 k
  ·have hr : ∀ q, q ∈ C → slt k q.1 = true := fun q hq => by
     have h5:=h1 q hq
     cases h4:slt k p.1
     ·rw [← slt_eq h3 h4];exact h5
     ·exact slt_trans h4 h5
   have a1:C.filter (fun q=>slt q.1 k)=[]:=filter_none fun q hq=>slt_asymm (hr q hq)
   have a2:C.filter (fun q=>slt k q.1)=C:=filter_all fun q hq=>hr q hq
   cases h4:slt k p.1
   ·have e:=slt_eq h3 h4
    have:cget (p::C) k=some p.2:=by simp [cget,e]
    rw [this];unfold cput;rw [List.filter_cons,List.filter_cons,a1,a2,h3,h4];obtain ⟨p1,p2⟩:=p;simp only at e;subst e;simp;omega
   ·have hne:p.1≠k:=fun e=>by rw [e,slt_irrefl] at h4;cases h4
    have:cget (p::C) k=none:=by
     unfold cget;rw [find_none]
     ·rfl
     ·intro q hq
      rcases List.mem_cons.1 hq with rfl | hq
      ·simpa using hne
      ·have:=hr q hq
       refine decide_eq_false fun e=>?_
       rw [e,slt_irrefl] at this
       cases this
    rw [this];unfold cput;rw [List.filter_cons,List.filter_cons,a1,a2,h3,h4];simp;omega
  ·have hne:p.1≠k:=fun e=>by rw [e,slt_irrefl] at h3;cases h3
   have hg:cget (p::C) k=cget C k:=by unfold cget;rw [List.find?_cons,decide_eq_false hne]
   have ih:=csum_put f (v:=v) (k:=k) h2;rw [csum_cons_lt f h3,hg,List.map_cons,List.sum_cons];omega
theorem csum_del (f:Str×β→Nat):∀ {C:Cont β} {k:Str},((cdel C k).map f).sum≤(C.map f).sum
 | [],_=>by simp [cdel]
 | p::C,k=>by
  have ih:=csum_del f (C:=C) (k:=k);unfold cdel at ih ⊢;rw [List.filter_cons];split <;> simp <;> omega
end
section
variable {γ:Type} {F N:List Ly} {l0 l1 l:Ly}
theorem turnL_perm:∀ {F:List Ly},(F.map (·.pre)).Nodup→l0∈F→(turnL F l0 l1).Perm (l1::F.filter fun l=>decide (l.pre≠l0.pre))
 | [],_,h=>by simp at h
 | a::F,hn,h=>by
  rw [List.map_cons,List.nodup_cons] at hn;by_cases e:a.pre=l0.pre
  ·have hno:∀ l,l∈F→l.pre≠l0.pre:=fun l hl e2=>hn.1 (by rw [e,← e2];exact List.mem_map_of_mem hl)
   have e1:turnL F l0 l1=F:=by
    unfold turnL;rw [List.map_congr_left (g:=id) (fun l hl=>by rw [if_neg (hno l hl)];rfl),List.map_id]
   have e2:F.filter (fun l=>decide (l.pre≠l0.pre))=F:=List.filter_eq_self.2 fun l hl=>by simpa using hno l hl
   rw [List.filter_cons,if_neg (by simpa using e),e2]
   show ((if a.pre=l0.pre then l1 else a)::turnL F l0 l1).Perm _
   rw [if_pos e,e1]
  ·have hm : l0 ∈ F := by
     rcases List.mem_cons.1 h with h | h
     ·exact absurd (by rw [h]) e
     ·exact h
   have ih:=turnL_perm hn.2 hm;rw [List.filter_cons,if_pos (by simpa using e)]
   show ((if a.pre=l0.pre then l1 else a)::turnL F l0 l1).Perm _
   rw [if_neg e];exact (ih.cons a).trans (List.Perm.swap _ _ _)
theorem turnL_self (hn:(F.map (·.pre)).Nodup) (hl0:l0∈F):turnL F l0 l0=F:=by
 unfold turnL
 rw [List.map_congr_left (g:=id) (fun l hl=>?_),List.map_id]
 split
 ·rename_i e
  exact (nd_uniq hn hl hl0 e).symm
 ·rfl
where
 nd_uniq:∀ {F:List Ly} {a b:Ly},(F.map (·.pre)).Nodup→a∈F→b∈F→a.pre=b.pre→a=b
  | [],_,_,_,h,_,_=>by simp at h
  | x::F,a,b,hn,ha,hb,e=>by
   rw [List.map_cons,List.nodup_cons] at hn;rcases List.mem_cons.1 ha with h1 | h1 <;> rcases List.mem_cons.1 hb with h2 | h2
   ·rw [h1,h2]
   ·exact absurd (by rw [← h1,e];exact List.mem_map_of_mem h2) hn.1
   ·exact absurd (by rw [← h2,← e];exact List.mem_map_of_mem h1) hn.1
   ·exact nd_uniq hn.2 h1 h2 e
theorem turnL_pre (hp:l1.pre=l0.pre):(turnL F l0 l1).map (·.pre)=F.map (·.pre):=by
 unfold turnL
 rw [List.map_map]
 refine List.map_congr_left fun l _=>?_
 simp only [Function.comp]
 split
 ·rename_i e;rw [hp,e]
 ·rfl
theorem turnL_len:(turnL F l0 l1).length=F.length:=List.length_map _
def rest1 (F:List Ly) (l0:Ly):List Ly:=F.filter fun l=>decide (l.pre≠l0.pre)
theorem flat_turn (hn:(F.map (·.pre)).Nodup) (hl0:l0∈F):((turnL F l0 l1).flatMap fun l=>l.Ls.flatten).Perm (l1.Ls.flatten++(rest1 F l0).flatMap fun l=>l.Ls.flatten):=by
 have:=(turnL_perm (l1:=l1) hn hl0).flatMap_right (fun l=>l.Ls.flatten)
 simpa [rest1] using this
theorem flat_self (hn:(F.map (·.pre)).Nodup) (hl0:l0∈F):(F.flatMap fun l=>l.Ls.flatten).Perm (l0.Ls.flatten++(rest1 F l0).flatMap fun l=>l.Ls.flatten):=by
 have:=flat_turn (l1:=l0) hn hl0
 rw [turnL_self hn hl0] at this
 exact this
theorem sum_turn (g:Ly→Nat) (hn:(F.map (·.pre)).Nodup) (hl0:l0∈F):((turnL F l0 l1).map g).sum=g l1+((rest1 F l0).map g).sum:=by
 have:=((turnL_perm (l1:=l1) hn hl0).map g).sum_nat
 simpa [rest1] using this
theorem sum_self (g:Ly→Nat) (hn:(F.map (·.pre)).Nodup) (hl0:l0∈F):(F.map g).sum=g l0+((rest1 F l0).map g).sum:=by
 have:=sum_turn (l1:=l0) g hn hl0
 rw [turnL_self hn hl0] at this
 exact this
end
def lvs (F:List Ly):Nat:=(F.map fun l=>leaves l.Ls).sum
def ptS (s:Sl):Nat:=if (bl s.rest).length=0 then 0 else (bl s.rest).length+8
def ptL (l:Ly):Nat:=((content l.Ls).map fun x=>ptS x.2).sum
def pot (F:List Ly):Nat:=16*(F.length - 1)+(F.map ptL).sum
structure WB (F:List Ly) (lv pt:Nat):Prop where
 slim:∀ l,l∈F→Slim l.Ls
 thk:∀ l,l∈F→Thick l.Ls
 top:∀ l,l∈F→∃ n,l.Ls[l.Ls.length - 1]?=some [(l.r,n)]
 pre:∀ l,l∈F→l.pre.length≤pt
 rst:∀ l,l∈F→∀ x,x∈content l.Ls→(bl x.2.rest).length≤pt
 lv:lvs F≤lv
 pot:pot F≤pt
section
variable {F N:List Ly} {l0 l1 l:Ly} {lv pt lv' pt':Nat}
theorem le_lvs:∀ {F:List Ly},l∈F→leaves l.Ls≤lvs F
 | [],h=>by simp at h
 | a::F,h=>by
  rcases List.mem_cons.1 h with rfl | h
  ·simp [lvs]
  ·have:=le_lvs h
   simp only [lvs,List.map_cons,List.sum_cons] at this ⊢;omega
theorem WB.sane (h:WB F lv pt) (hM:MOK F) (hn:((F.flatMap fun l=>l.Ls.flatten).map (·.1)).Nodup) (hlv:lv≤10000) (hpt:pt≤1000000):SaneY F:=by
 have hs:∀ l,l∈F→nodes l.Ls+1≤2*leaves l.Ls∧2 ^ (l.Ls.length - 1)≤leaves l.Ls∧leaves l.Ls≤10000:=fun l hl=>by
  obtain ⟨h1,h2,_⟩:=(hM.tow l hl).size (h.thk l hl);have:=le_lvs hl;have:=h.lv;exact ⟨h1,h2,by omega⟩
 refine ⟨hM,h.slim,fun l hl=>?_,fun l hl=>?_,h.top,hn,fun l hl=>?_,fun l hl x hx=>?_⟩
 ·obtain ⟨_,h2,h3⟩:=hs l hl
  have:l.Ls.length - 1 < 14:=(Nat.pow_lt_pow_iff_right (a:=2) (by omega)).1 (Nat.lt_of_le_of_lt (Nat.le_trans h2 h3) (by omega));omega
 ·obtain ⟨h1,_,h3⟩:=hs l hl
  omega
 ·have:=h.pre l hl;omega
 ·have:=h.rst l hl x hx;omega
theorem WB.mono (h:WB F lv pt) (h1:lv≤lv') (h2:pt≤pt'):WB F lv' pt' :=
 ⟨h.slim,h.thk,h.top,fun l hl=>Nat.le_trans (h.pre l hl) h2,fun l hl x hx=>Nat.le_trans (h.rst l hl x hx) h2,Nat.le_trans h.lv h1,Nat.le_trans h.pot h2⟩
theorem WB.turn (h : WB F lv pt) (hn : (F.map (·.pre)).Nodup) (hl0 : l0 ∈ F) (hp : l1.pre = l0.pre) (hs : Slim l1.Ls) (hk : Thick l1.Ls) (ht : ∃ n, l1.Ls[l1.Ls.length - 1]? = some [(l1.r, n)])
    (hr:∀ x,x∈content l1.Ls→(bl x.2.rest).length≤pt') (hl:leaves l1.Ls+lv≤leaves l0.Ls+lv') (hpt:pt≤pt') (hq:ptL l1+pt≤ptL l0+pt'):WB (turnL F l0 l1) lv' pt':=by
 have hm:=turnL_mem (l1:=l1) hl0
 refine ⟨fun l hl=>?_,fun l hl=>?_,fun l hl=>?_,fun l hl=>?_,fun l hl x hx=>?_,?_,?_⟩
 ·rcases (hm l).1 hl with rfl | ⟨h1,_⟩
  ·exact hs
  ·exact h.slim l h1
 ·rcases (hm l).1 hl with rfl | ⟨h1,_⟩
  ·exact hk
  ·exact h.thk l h1
 ·rcases (hm l).1 hl with rfl | ⟨h1,_⟩
  ·exact ht
  ·exact h.top l h1
 ·rcases (hm l).1 hl with rfl | ⟨h1,_⟩
  ·rw [hp];exact Nat.le_trans (h.pre l0 hl0) hpt
  ·exact Nat.le_trans (h.pre l h1) hpt
 ·rcases (hm l).1 hl with rfl | ⟨h1,_⟩
  ·exact hr x hx
  ·exact Nat.le_trans (h.rst l h1 x hx) hpt
 ·have e1:=sum_turn (l1:=l1) (fun l=>leaves l.Ls) hn hl0
  have e2:=sum_self (fun l=>leaves l.Ls) hn hl0;have:=h.lv;unfold lvs at this ⊢;omega
 ·have e1:=sum_turn (l1:=l1) ptL hn hl0
  have e2:=sum_self ptL hn hl0;have:=h.pot;unfold M.pot at this ⊢;rw [turnL_len];omega
theorem WB.app (h : WB F lv pt) (h0 : F ≠ []) (hs : ∀ l, l ∈ N → Slim l.Ls) (ht : ∀ l, l ∈ N → ∃ n, l.Ls = [[(l.r, n)]]) (hp : ∀ l, l ∈ N → l.pre.length ≤ pt') (hr : ∀ l, l ∈ N → ∀ x, x ∈ content l.Ls → (bl x.2.rest).length ≤ pt') (hpt : pt ≤ pt')
    (hq:(F.map ptL).sum+16*(F.length - 1)+16*N.length+(N.map ptL).sum≤pt'):WB (F++N) (lv+N.length) pt':=by
 have hF:1≤F.length:=List.length_pos_iff.2 h0
 refine ⟨fun l hl=>?_,fun l hl=>?_,fun l hl=>?_,fun l hl=>?_,fun l hl x hx=>?_,?_,?_⟩
 ·rcases List.mem_append.1 hl with h1 | h1
  ·exact h.slim l h1
  ·exact hs l h1
 ·rcases List.mem_append.1 hl with h1 | h1
  ·exact h.thk l h1
  ·obtain ⟨n,e⟩:=ht l h1
   rw [e];intro i R hR hi;rw [List.getElem?_eq_none (by simp;omega)] at hR
   cases hR
 ·rcases List.mem_append.1 hl with h1 | h1
  ·exact h.top l h1
  ·obtain ⟨n,e⟩:=ht l h1
   exact ⟨n,by rw [e];rfl⟩
 ·rcases List.mem_append.1 hl with h1 | h1
  ·exact Nat.le_trans (h.pre l h1) hpt
  ·exact hp l h1
 ·rcases List.mem_append.1 hl with h1 | h1
  ·exact Nat.le_trans (h.rst l h1 x hx) hpt
  ·exact hr l h1 x hx
 ·have h1:=h.lv
  have h2:∀ (N:List Ly),(∀ l,l∈N→∃ n,l.Ls=[[(l.r,n)]])→(N.map fun l=>leaves l.Ls).sum=N.length:=by
   intro N
   induction N with
   | nil=>intro _;rfl
   | cons a N ih =>
    intro ht;obtain ⟨n,e⟩:=ht a (by simp);rw [List.map_cons,List.sum_cons,ih fun l hl=>ht l (by simp [hl]),e];simp [leaves];omega
  have h3:=h2 N ht;unfold lvs at h1 ⊢;rw [List.map_append,List.sum_append,h3];omega
 ·unfold M.pot
  rw [List.map_append,List.sum_append,List.length_append];omega
end
theorem alk_lt:∀ (n:Nat) (a b:Byt),a.length≤n→a≠[]→b≠[]→8*alk a b < a.length∧8*alk a b < b.length
 | 0,a,b,hn,ha,_=>absurd (List.eq_nil_of_length_eq_zero (by omega)) ha
 | n+1,a,b,hn,ha,hb=>by
  by_cases h:8 < a.length∧8 < b.length∧a.take 8=b.take 8
  ·have ih:=alk_lt n (a.drop 8) (b.drop 8) (by rw [List.length_drop];omega) (fun e=>by have:=List.drop_eq_nil_iff.1 e;omega) (fun e=>by have:=List.drop_eq_nil_iff.1 e;omega)
   rw [alk_step h];rw [List.length_drop,List.length_drop] at ih;omega
  ·rw [alk_stop h]
   have:=List.length_pos_iff.2 ha;have:=List.length_pos_iff.2 hb;omega
theorem ptS_of (a:Byt) (v:Str):ptS (slOf a v)=if a.length≤8 then 0 else a.length:=by
 unfold ptS slOf
 simp only [bl_bs,List.length_drop]
 split <;> split <;> omega
theorem alk_ne:∀ (n:Nat) (a b:Byt),a.length≤n→alk a b=0→a≠b→mkOf a≠mkOf b:=fun n a b _ h0 hne e=>by
 rcases mk_eq e with h | h
 ·exact hne h
 ·rw [alk_step h] at h0
  omega
theorem bothN_len:∀ (hs:List Hd) (p a b:Byt) (v w:Str),(bothN p a b v w hs).length=hs.length
 | [],_,_,_,_,_=>rfl
 | [_],_,_,_,_,_=>rfl
 | h::g::hs,p,a,b,v,w=>by
  show (bothN _ _ _ v w (g::hs)).length+1=_
  rw [bothN_len (g::hs)];rfl
theorem bothN_is : ∀ (hs : List Hd) (h : Hd) (p a b : Byt) (v w : Str), hs.length = alk a b → a ≠ b → a ≠ [] → b ≠ [] →
    (∀ l,l∈bothN p a b v w (h::hs)→(∃ n,l.Ls=[[(l.r,n)]])∧Slim l.Ls∧l.pre.length≤p.length+8*hs.length∧∀ x,x∈content l.Ls→(bl x.2.rest).length≤max a.length b.length) ∧
    ((bothN p a b v w (h::hs)).map ptL).sum=ptS (slOf (a.drop (8*hs.length)) v)+ptS (slOf (b.drop (8*hs.length)) w)
 | [],h,p,a,b,v,w,hl,hne,ha,hb=>by
  have hm:=alk_ne _ a b (Nat.le_refl _) hl.symm hne;have hmt:mT (mkOf a)≠mT (mkOf b):=fun e=>hm (mT_inj (mkOf_b _) (mkOf_b _) e)
  have hmem:=two_mem (v:=v) (w:=w) (h:=h) hm;have hc:=(two_ok a b v w h).2
  have hkl:(two a b v w).keys.length≤2:=by
   unfold two;have h1:=(put_ends (lf0.put (mT (mkOf a)) (slOf a v)) (mT (mkOf b)) (slOf b w)).2.2.2.2.2;have h2:=(put_ends lf0 (mT (mkOf a)) (slOf a v)).2.2.2.2.2;have h3:lf0.keys.length=0:=rfl;rw [h1,h2,h3];split <;> split <;> omega
  refine ⟨fun l hl=>?_,?_⟩
  ·have hl:l∈[Ly.mk p [[(h,two a b v w)]] h]:=hl
   rw [List.mem_singleton.1 hl];refine ⟨⟨_,rfl⟩,?_,by simp,fun x hx=>?_⟩
   ·intro i R hR x hx
    cases i with
    | zero =>
     simp at hR;subst hR;rw [List.mem_singleton.1 hx];have:=(cap_le 0).1
     show (two a b v w).keys.length≤_
     omega
    | succ i=>simp at hR
   ·rcases (hmem x).1 hx with rfl | rfl <;> simp [slOf,bl_bs] <;> omega
  ·show ([Ly.mk p [[(h,two a b v w)]] h].map ptL).sum=_
   have e0:ptL ⟨p,[[(h,two a b v w)]],h⟩=ptS (slOf a v)+ptS (slOf b w):=by
    unfold ptL;rw [hc];have:=csum_put (fun x:Str×Sl=>ptS x.2) (C:=[(mT (mkOf a),slOf a v)]) (k:=mT (mkOf b)) (v:=slOf b w) (List.pairwise_singleton _ _)
    have hg:cget [(mT (mkOf a),slOf a v)] (mT (mkOf b))=none:=by
     unfold cget;rw [List.find?_cons,decide_eq_false hmt];rfl
    rw [hg] at this;simpa using this
   simp [e0]
 | g::hs,h,p,a,b,v,w,hl,hab,ha,hb=>by
  have hst:8 < a.length∧8 < b.length∧a.take 8=b.take 8:=Classical.byContradiction fun hn=>by
   rw [alk_stop hn] at hl;simp at hl
  have ha8:a.drop 8≠[]:=fun e=>by have:=List.drop_eq_nil_iff.1 e;omega
  have hb8:b.drop 8≠[]:=fun e=>by have:=List.drop_eq_nil_iff.1 e;omega
  obtain ⟨i1,i2⟩:=bothN_is hs g (p++a.take 8) (a.drop 8) (b.drop 8) v w (by rw [alk_step hst] at hl;simpa using hl) (fun e=>hab (by rw [← List.take_append_drop 8 a,hst.2.2,e,List.take_append_drop])) ha8 hb8;have hc:=(deep1_ok a g h).2
  have hkl:(deep1 a g).keys.length≤1:=by
   unfold deep1;have h2:=(put_ends lf0 (mT (mkOf a)) (slDp a g)).2.2.2.2.2;have h3:lf0.keys.length=0:=rfl;rw [h2,h3];split <;> omega
  refine ⟨fun l hl=>?_,?_⟩
  ·have hl:l∈Ly.mk p [[(h,deep1 a g)]] h::bothN (p++a.take 8) (a.drop 8) (b.drop 8) v w (g::hs):=hl
   rcases List.mem_cons.1 hl with rfl | hl
   ·refine ⟨⟨_,rfl⟩,?_,by simp,fun x hx=>?_⟩
    ·intro i R hR x hx
     cases i with
     | zero =>
      simp at hR;subst hR;rw [List.mem_singleton.1 hx];have:=(cap_le 0).1
      show (deep1 a g).keys.length≤_
      omega
     | succ i=>simp at hR
    ·rw [hc,List.mem_singleton] at hx
     rw [hx];simp [slDp,s0]
   ·obtain ⟨j1,j2,j3,j4⟩:=i1 l hl
    refine ⟨j1,j2,?_,fun x hx=>?_⟩
    ·rw [List.length_append,List.length_take] at j3
     simp only [List.length_cons];omega
    ·have:=j4 x hx
     rw [List.length_drop,List.length_drop] at this;omega
  ·show ((Ly.mk p [[(h,deep1 a g)]] h::bothN (p++a.take 8) (a.drop 8) (b.drop 8) v w (g::hs)).map ptL).sum=_
   have e0:ptL ⟨p,[[(h,deep1 a g)]],h⟩=0:=by
    unfold ptL;rw [hc];rfl
   rw [List.map_cons,List.sum_cons,e0,i2,List.drop_drop,List.drop_drop];simp only [List.length_cons,Nat.zero_add];rw [show 8+8*hs.length=8*(hs.length+1) by omega]
theorem both_pot {a b:Byt} {v w:Str} {n:Nat} (ha:a≠[]) (hb:b≠[]) (hn:n=alk a b):16*(n+1)+(ptS (slOf (a.drop (8*n)) v)+ptS (slOf (b.drop (8*n)) w))≤a.length+8+(b.length+8):=by
 have:=alk_lt _ a b (Nat.le_refl _) ha hb
 rw [← hn] at this
 rw [ptS_of,ptS_of,List.length_drop,List.length_drop]
 split <;> split <;> omega
structure WY (F:List Ly) (lv pt:Nat):Prop where
 ok:MOK F
 wb:WB F lv pt
structure LvOK (Ls Ls':List (Lev Sl)) (D:Cont Sl) (r:Hd):Prop where
 tow:Tower Ls'
 thk:Thick Ls'
 slim:Slim Ls'
 con:content Ls'=D
 lv:leaves Ls'≤leaves Ls+1
 top:∃ n,Ls'[Ls'.length - 1]?=some [(r,n)]
 evo:Evo Ls Ls'
section
variable {F:List Ly} {C:Cont Str} {k v:Str} {i:Nat} {l0 l1 l2 lp lp1:Ly} {s so sp:Sl} {lv pt:Nat} {Ls' Lp':List (Lev Sl)} {r:Hd}
theorem EvoY.turn (hp:l1.pre=l0.pre) (hu:∀ l,l∈F→l.pre=l0.pre→l=l0) (he:Evo l0.Ls l1.Ls):EvoY F (turnL F l0 l1):=fun l hl=>by
 by_cases e:l.pre=l0.pre
 ·refine ⟨l1,List.mem_map.2 ⟨l,hl,if_pos e⟩,hp.trans e.symm,?_⟩
  rw [hu l hl e];exact he
 ·exact ⟨l,List.mem_map.2 ⟨l,hl,if_neg e⟩,rfl,Evo.refl _⟩
theorem turnL_twice (hp:l1.pre=l0.pre):turnL (turnL F l0 l1) l1 l2=turnL F l0 l2:=by
 unfold turnL
 rw [List.map_map]
 refine List.map_congr_left fun l _=>?_
 simp only [Function.comp]
 by_cases e:l.pre=l0.pre
 ·rw [if_pos e,if_pos rfl,if_pos e]
 ·rw [if_neg e,if_neg (by rw [hp];exact e),if_neg e]
theorem relink_eq (hu:∀ l,l∈F→l.pre=l0.pre→l=l0) (hne:l0.pre≠lp.pre) (hp:lp1.pre=lp.pre):relink F l0 lp1 r=turnL (turnL F l0 { l0 with r:=r }) lp lp1:=by
 unfold relink turnL
 rw [List.map_map]
 refine List.map_congr_left fun l hl=>?_
 simp only [Function.comp]
 by_cases e:l.pre=l0.pre
 ·rw [if_pos e,if_pos e,if_neg hne,hu l hl e]
 ·rw [if_neg e,if_neg e,hp]
theorem MOK.reroot (h:MOK F) (hl0:l0∈F) (h0:l0.pre=[]) (hp:l1.pre=l0.pre) (hL:l1.Ls=l0.Ls):MOK (turnL F l0 l1)∧(MCt F C→MCt (turnL F l0 l1) C):=by
 have hm:=turnL_mem (l1:=l1) hl0
 have hto:∀ l,l∈turnL F l0 l1→∃ l',l'∈F∧l'.pre=l.pre∧l'.Ls=l.Ls:=fun l hl=>by
  rcases (hm l).1 hl with rfl | ⟨h1,_⟩
  ·exact ⟨l0,hl0,hp.symm,hL.symm⟩
  ·exact ⟨l,h1,rfl,rfl⟩
 have hfr:∀ l,l∈F→∃ l',l'∈turnL F l0 l1∧l'.pre=l.pre∧l'.Ls=l.Ls:=fun l hl=>by
  by_cases e:l.pre=l0.pre
  ·obtain rfl:=h.uniq hl hl0 e
   exact ⟨l1,(hm l1).2 (.inl rfl),hp,hL⟩
  ·exact ⟨l,(hm l).2 (.inr ⟨hl,e⟩),rfl,rfl⟩
 refine ⟨⟨fun l hl=>?_,fun l hl x hx=>?_,by rw [turnL_pre hp];exact h.pre,?_,fun l hl x hx hd=>?_,fun l hl hne=>?_,fun l hl hne x hx=>?_⟩,fun hct=>⟨hct.srt,fun k' v'=>?_⟩⟩
 ·obtain ⟨l',a,_,c⟩:=hto l hl
  rw [← c];exact h.tow l' a
 ·obtain ⟨l',a,_,c⟩:=hto l hl
  rw [← c] at hx;exact h.key l' a x hx
 ·obtain ⟨a,F',e,e0⟩:=h.root
  refine ⟨_,_,by rw [e];rfl,?_⟩
  show (if a.pre=l0.pre then l1 else a).pre=[]
  split
  ·rw [hp,h0]
  ·exact e0
 ·obtain ⟨l',a,b,c⟩:=hto l hl
  rw [← c] at hx;obtain ⟨l3,d1,d2,d3⟩:=h.down l' a x hx hd
  have hne:l3.pre≠l0.pre:=fun e=>by
   rw [h0,d2] at e;have:=congrArg List.length e;rw [List.length_append,ube_len] at this;simp at this
  exact ⟨l3,(hm l3).2 (.inr ⟨d1,hne⟩),by rw [d2,b],d3⟩
 ·obtain ⟨l',a,b,c⟩:=hto l hl
  rw [← b] at hne;obtain ⟨l3,d1,x,d2,d3,d4⟩:=h.up l' a hne;obtain ⟨l4,e1,e2,e3⟩:=hfr l3 d1;exact ⟨l4,e1,x,by rw [e3];exact d2,d3,by rw [e2,← d4,b]⟩
 ·obtain ⟨l',a,b,c⟩:=hto l hl
  rw [← b] at hne;rw [← c] at hx;exact h.cls l' a hne x hx
 ·rw [hct.mem]
  refine ⟨fun ⟨l,hl,x,hx,q⟩=>?_,fun ⟨l,hl,x,hx,q⟩=>?_⟩
  ·obtain ⟨l',a,b,c⟩:=hfr l hl
   exact ⟨l',a,x,by rw [c];exact hx,by rw [b];exact q⟩
  ·obtain ⟨l',a,b,c⟩:=hto l hl
   exact ⟨l',a,x,by rw [c];exact hx,by rw [b];exact q⟩
theorem keyAt_len (k:Str) (i:Nat):(keyAt k i).length=k.size - 8*i:=by
 show ((bl k).drop (8*i)).length=_
 rw [List.length_drop]
 rfl
theorem rest_slOf (a:Byt) (v:Str):(bl (slOf a v).rest).length≤a.length:=by
 show (bl (bs (a.drop 8))).length≤_
 rw [bl_bs,List.length_drop]
 omega
theorem ptS_le (a:Byt) (v:Str):ptS (slOf a v)≤a.length:=by
 rw [ptS_of]
 split <;> omega
theorem put_sums (h : MOK F) (hl0 : l0 ∈ F) (hcon : content Ls' = cput (content l0.Ls) (mT s.m) s) (hb : ∀ x, x ∈ content l0.Ls → (bl x.2.rest).length ≤ pt) :
    ptL ⟨l0.pre,Ls',r⟩+(match M.cget (content l0.Ls) (mT s.m) with | some o=>ptS o | none=>0)=ptL l0+ptS s∧∀ x,x∈content Ls'→(bl x.2.rest).length≤max pt (bl s.rest).length:=by
 refine ⟨?_,fun x hx=>?_⟩
 ·have:=csum_put (fun x:Str×Sl=>ptS x.2) (h.srt hl0) (k:=mT s.m) (v:=s)
  unfold ptL;rw [hcon]
  cases hg:M.cget (content l0.Ls) (mT s.m) <;> rw [hg] at this <;> simpa using this
 ·rw [hcon] at hx
  have:=(put_iff (l1:=⟨l0.pre,Ls',r⟩) (h.srt hl0) hcon x).1 (by rw [hcon];exact hx);rcases this with rfl | ⟨h1,_⟩
  ·exact Nat.le_max_right _ _
  ·exact Nat.le_trans (hb x h1) (Nat.le_max_left _ _)
theorem WB.put (h:WB F lv pt) (hM:MOK F) (hl0:l0∈F) (hL:LvOK l0.Ls Ls' (cput (content l0.Ls) (mT (slOf (keyAt k i) v).m) (slOf (keyAt k i) v)) r):WB (turnL F l0 ⟨l0.pre,Ls',r⟩) (lv+1) (pt+k.size):=by
 obtain ⟨e1,e2⟩:=put_sums (r:=r) hM hl0 hL.con (h.rst l0 hl0)
 have e3:=ptS_le (keyAt k i) v
 have e4:=rest_slOf (keyAt k i) v
 have e5:=keyAt_len k i
 refine h.turn hM.pre hl0 rfl hL.slim hL.thk hL.top (fun x hx=>?_) (by have:=hL.lv;show leaves Ls'+lv≤_;omega) (by omega) (by omega)
 have:=e2 x hx
 omega
theorem WY.put (h : WY F lv pt) (hct : MCt F C) (ho : On F k i l0) (hold : ∀ so, M.cget (content l0.Ls) (mT (slOf (keyAt k i) v).m) = some so → so.deep = false ∧ so.rest = (slOf (keyAt k i) v).rest)
    (hL:LvOK l0.Ls Ls' (cput (content l0.Ls) (mT (slOf (keyAt k i) v).m) (slOf (keyAt k i) v)) l0.r) :
    WY (turnL F l0 ⟨l0.pre,Ls',l0.r⟩) (lv+1) (pt+k.size)∧MCt (turnL F l0 ⟨l0.pre,Ls',l0.r⟩) (cput C k v)∧EvoY F (turnL F l0 ⟨l0.pre,Ls',l0.r⟩):=by
 obtain ⟨a,b⟩:=MCt.put1 (l1:=⟨l0.pre,Ls',l0.r⟩) h.ok hct ho rfl rfl hL.tow (slOf_ok _ v) rfl (slOf_sb _ v).symm hL.con hold
 exact ⟨⟨a,h.wb.put h.ok ho.mem hL⟩,b,EvoY.turn (l0:=l0) rfl (fun l hl e=>h.ok.uniq hl ho.mem e) hL.evo⟩
theorem WY.putR (h : WY F lv pt) (hct : MCt F C) (ho : On F k 0 l0) (hold : ∀ so, M.cget (content l0.Ls) (mT (slOf (keyAt k 0) v).m) = some so → so.deep = false ∧ so.rest = (slOf (keyAt k 0) v).rest)
    (hL:LvOK l0.Ls Ls' (cput (content l0.Ls) (mT (slOf (keyAt k 0) v).m) (slOf (keyAt k 0) v)) r) :
    WY (turnL F l0 ⟨l0.pre,Ls',r⟩) (lv+1) (pt+k.size)∧MCt (turnL F l0 ⟨l0.pre,Ls',r⟩) (cput C k v)∧EvoY F (turnL F l0 ⟨l0.pre,Ls',r⟩):=by
 obtain ⟨a,b⟩:=MCt.put1 (l1:=⟨l0.pre,Ls',l0.r⟩) h.ok hct ho rfl rfl hL.tow (slOf_ok _ v) rfl (slOf_sb _ v).symm hL.con hold
 have h0:l0.pre=[]:=by rw [ho.pre];rfl
 have hm:(⟨l0.pre,Ls',l0.r⟩:Ly)∈turnL F l0 ⟨l0.pre,Ls',l0.r⟩:=(turnL_mem ho.mem _).2 (.inl rfl)
 obtain ⟨c,d⟩:=a.reroot (C:=cput C k v) (l1:=⟨l0.pre,Ls',r⟩) hm h0 rfl rfl
 rw [turnL_twice (l0:=l0) (l1:=⟨l0.pre,Ls',l0.r⟩) rfl] at c d
 exact ⟨⟨c,h.wb.put h.ok ho.mem hL⟩,d b,EvoY.turn (l0:=l0) rfl (fun l hl e=>h.ok.uniq hl ho.mem e) hL.evo⟩
theorem WY.putU (h : WY F lv pt) (hct : MCt F C) (ho : On F k i l0) (hold : ∀ so, M.cget (content l0.Ls) (mT (slOf (keyAt k i) v).m) = some so → so.deep = false ∧ so.rest = (slOf (keyAt k i) v).rest)
    (hL:LvOK l0.Ls Ls' (cput (content l0.Ls) (mT (slOf (keyAt k i) v).m) (slOf (keyAt k i) v)) r)
    (hlp:lp∈F) (hg:M.cget (content lp.Ls) (mT sp.m)=some sp) (hd:sp.deep=true) (he:l0.pre=lp.pre++ube 8 sp.m.s) (hLp:LvOK lp.Ls Lp' (cput (content lp.Ls) (mT sp.m) { sp with link:=r }) lp.r) (hlv:leaves Lp'≤leaves lp.Ls) :
    WY (turnL (turnL F l0 ⟨l0.pre,Ls',r⟩) lp ⟨lp.pre,Lp',lp.r⟩) (lv+1) (pt+k.size)∧MCt (turnL (turnL F l0 ⟨l0.pre,Ls',r⟩) lp ⟨lp.pre,Lp',lp.r⟩) (cput C k v)∧EvoY F (turnL (turnL F l0 ⟨l0.pre,Ls',r⟩) lp ⟨lp.pre,Lp',lp.r⟩):=by
 obtain ⟨a,b⟩:=MCt.put1 (l1:=⟨l0.pre,Ls',l0.r⟩) h.ok hct ho rfl rfl hL.tow (slOf_ok _ v) rfl (slOf_sb _ v).symm hL.con hold
 have hm:(⟨l0.pre,Ls',l0.r⟩:Ly)∈turnL F l0 ⟨l0.pre,Ls',l0.r⟩:=(turnL_mem ho.mem _).2 (.inl rfl)
 have hne:l0.pre≠lp.pre:=fun e=>by
  have:=congrArg List.length (e.symm.trans he);rw [List.length_append,ube_len] at this;omega
 have hlp':lp∈turnL F l0 ⟨l0.pre,Ls',l0.r⟩:=(turnL_mem ho.mem _).2 (.inr ⟨hlp,hne.symm⟩)
 obtain ⟨c,d⟩:=relink_ok (C:=cput C k v) (lp1:=⟨lp.pre,Lp',lp.r⟩) (r:=r) a hm hlp' hg hd he rfl rfl hLp.tow hLp.con
 rw [relink_eq (lp:=lp) (lp1:=⟨lp.pre,Lp',lp.r⟩) (fun l hl e=>a.uniq hl hm e) hne rfl,turnL_twice (l0:=l0) (l1:=⟨l0.pre,Ls',l0.r⟩) rfl] at c d
 have hwb:=h.wb.put h.ok ho.mem hL
 have hlq:lp∈turnL F l0 ⟨l0.pre,Ls',r⟩:=(turnL_mem ho.mem _).2 (.inr ⟨hlp,hne.symm⟩)
 have hpn:((turnL F l0 ⟨l0.pre,Ls',r⟩).map (·.pre)).Nodup:=by rw [turnL_pre (l0:=l0) (l1:=⟨l0.pre,Ls',r⟩) rfl];exact h.ok.pre
 obtain ⟨e1,e2⟩:=put_sums (r:=lp.r) (pt:=pt) (s:={ sp with link:=r }) h.ok hlp hLp.con (h.wb.rst lp hlp)
 have hg':M.cget (content lp.Ls) (mT ({ sp with link:=r }:Sl).m)=some sp:=hg
 rw [hg'] at e1
 have e3:ptS ({ sp with link:=r }:Sl)=ptS sp:=rfl
 have hrl:(bl sp.rest).length≤pt:=h.wb.rst lp hlp _ ((h.ok.cget hlp).1 hg)
 refine ⟨⟨c,hwb.turn hpn hlq rfl hLp.slim hLp.thk hLp.top (fun x hx=>?_) (by show leaves Lp'+_≤_;omega) (Nat.le_refl _) (by simp only at e1;omega)⟩,d b,?_⟩
 ·have:=e2 x hx
  have h9:(bl ({ sp with link:=r }:Sl).rest).length=(bl sp.rest).length:=rfl;omega
 ·refine (EvoY.turn (l0:=l0) (l1:=⟨l0.pre,Ls',r⟩) rfl (fun l hl e=>h.ok.uniq hl ho.mem e) hL.evo).trans (EvoY.turn (l0:=lp) rfl (fun l hl e=>?_) hLp.evo)
  rcases (turnL_mem ho.mem l).1 hl with rfl | ⟨h1,_⟩
  ·exact absurd e hne
  ·exact h.ok.uniq h1 hlp e
theorem WY.deepen {hs : List Hd} {h0 : Hd} (h : WY F lv pt) (hct : MCt F C) (ho : On F k i l0) (hg : M.cget (content l0.Ls) (mT (mkAt k i)) = some so) (hd : so.deep = false) (hne : bl so.rest ≠ keyAt k (i + 1)) (hl : hs.length = alk (bl so.rest) (keyAt k (i + 1)))
    (hL:LvOK l0.Ls Ls' (cput (content l0.Ls) (mT so.m) ⟨so.m,s0,s0,true,h0⟩) l0.r) (hlv:leaves Ls'≤leaves l0.Ls) :
    WY (turnL F l0 ⟨l0.pre,Ls',l0.r⟩++bothN (l0.pre++ube 8 so.m.s) (bl so.rest) (keyAt k (i+1)) so.val v (h0::hs)) (lv+(hs.length+1)) (pt+k.size) ∧
     MCt (turnL F l0 ⟨l0.pre,Ls',l0.r⟩++bothN (l0.pre++ube 8 so.m.s) (bl so.rest) (keyAt k (i+1)) so.val v (h0::hs)) (cput C k v) ∧
     EvoY F (turnL F l0 ⟨l0.pre,Ls',l0.r⟩++bothN (l0.pre++ube 8 so.m.s) (bl so.rest) (keyAt k (i+1)) so.val v (h0::hs)):=by
 obtain ⟨a,b⟩:=M.deepen (l1:=⟨l0.pre,Ls',l0.r⟩) (v:=v) h.ok hct ho hg hd hne hl rfl rfl hL.tow hL.con
 obtain ⟨c1,c2,c3,c4,c5,c6⟩:=clash h.ok ho hg hd hne
 obtain ⟨j1,j2⟩:=bothN_is hs h0 (l0.pre++ube 8 so.m.s) (bl so.rest) (keyAt k (i+1)) so.val v hl hne c3 c4
 have jl:=bothN_len (h0::hs) (l0.pre++ube 8 so.m.s) (bl so.rest) (keyAt k (i+1)) so.val v
 have hp:=both_pot (v:=so.val) (w:=v) c3 c4 hl
 have hal:=alk_lt _ _ _ (Nat.le_refl _) c3 c4
 rw [← hl] at hal
 have hkl:=keyAt_len k (i+1)
 have hk0:=List.length_pos_iff.2 c4
 have hpl:l0.pre.length≤8*i:=by rw [ho.pre,List.length_take];omega
 obtain ⟨e1,e2⟩:=put_sums (r:=l0.r) (pt:=pt) (s:=⟨so.m,s0,s0,true,h0⟩) h.ok ho.mem hL.con (h.wb.rst l0 ho.mem)
 have hg':M.cget (content l0.Ls) (mT so.m)=some so:=by rw [c1];exact hg
 simp only [hg'] at e1
 have e3:ptS (⟨so.m,s0,s0,true,h0⟩:Sl)=0:=rfl
 have e4:ptS so=(bl so.rest).length+8:=by
  unfold ptS;rw [if_neg (by have:=List.length_pos_iff.2 c3;omega)]
 have hrl:(bl so.rest).length≤pt:=h.wb.rst l0 ho.mem _ ((h.ok.cget ho.mem).1 hg)
 have hw1:WB (turnL F l0 ⟨l0.pre,Ls',l0.r⟩) lv pt:=h.wb.turn h.ok.pre ho.mem rfl hL.slim hL.thk hL.top (fun x hx=>by
  have:=e2 x hx;have h9:(bl (⟨so.m,s0,s0,true,h0⟩:Sl).rest).length=0:=rfl
  omega) (by show leaves Ls'+_≤_;omega) (Nat.le_refl _) (by omega)
 have s1:=sum_turn (l1:=⟨l0.pre,Ls',l0.r⟩) ptL h.ok.pre ho.mem
 have s2:=sum_self ptL h.ok.pre ho.mem
 have hpt:=h.wb.pot
 unfold M.pot at hpt
 have hne0:turnL F l0 ⟨l0.pre,Ls',l0.r⟩≠[]:=fun e=>by
  have:=(turnL_mem (l1:=⟨l0.pre,Ls',l0.r⟩) ho.mem _).2 (.inl rfl);rw [e] at this;simp at this
 have hw2:=hw1.app (N:=bothN (l0.pre++ube 8 so.m.s) (bl so.rest) (keyAt k (i+1)) so.val v (h0::hs)) (pt':=pt+k.size) hne0 (fun l hl=>(j1 l hl).2.1) (fun l hl=>(j1 l hl).1) (fun l hl=>?_) (fun l hl x hx=>?_) (by omega) ?_
 ·refine ⟨⟨a,?_⟩,b,(EvoY.turn (l0:=l0) (l1:=⟨l0.pre,Ls',l0.r⟩) rfl (fun l hl e=>h.ok.uniq hl ho.mem e) hL.evo).trans fun l hl=>⟨l,List.mem_append_left _ hl,rfl,Evo.refl _⟩⟩
  rw [jl] at hw2;exact hw2
 ·have:=(j1 l hl).2.2.1
  rw [List.length_append,ube_len] at this;omega
 ·have:=(j1 l hl).2.2.2 x hx
  omega
 ·rw [turnL_len,jl,s1,j2,List.length_cons]
  omega
theorem WY.del (h : WY F lv pt) (hct : MCt F C) (ho : On F k i l0) (hg : M.cget (content l0.Ls) (mT (mkAt k i)) = some s) (hd : s.deep = false) (hsk : keyAt k i = sb s)
    (hL:LvOK l0.Ls Ls' (cdel (content l0.Ls) (mT (mkAt k i))) l0.r) (hlv:leaves Ls'≤leaves l0.Ls) :
    WY (turnL F l0 ⟨l0.pre,Ls',l0.r⟩) lv pt∧MCt (turnL F l0 ⟨l0.pre,Ls',l0.r⟩) (cdel C k)∧EvoY F (turnL F l0 ⟨l0.pre,Ls',l0.r⟩):=by
 obtain ⟨a,b⟩:=MCt.del1 (l1:=⟨l0.pre,Ls',l0.r⟩) h.ok hct ho rfl rfl hL.tow hg hd hsk hL.con
 refine ⟨⟨a,h.wb.turn h.ok.pre ho.mem rfl hL.slim hL.thk hL.top (fun x hx=>?_) (by show leaves Ls'+_≤_;omega) (Nat.le_refl _) ?_⟩,b,EvoY.turn (l0:=l0) rfl (fun l hl e=>h.ok.uniq hl ho.mem e) hL.evo⟩
 ·have hx':x∈content Ls':=hx
  rw [hL.con] at hx';exact h.wb.rst l0 ho.mem x (List.mem_filter.1 hx').1
 ·have:=csum_del (fun x:Str×Sl=>ptS x.2) (C:=content l0.Ls) (k:=mT (mkAt k i))
  have e:ptL ⟨l0.pre,Ls',l0.r⟩=((cdel (content l0.Ls) (mT (mkAt k i))).map fun x=>ptS x.2).sum:=by unfold ptL;rw [hL.con]
  have e2:ptL l0=((content l0.Ls).map fun x=>ptS x.2).sum:=rfl;omega
end
end Go.Proofs.YtbdealmkmpnpoaaGreat.M
