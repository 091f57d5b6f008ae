import Derived.Laws.MakeOwn
import Derived.Lib.SliceRun
import Derived.Deep.RegionLaw
import Derived.Test.YtbdealmkmpnpoaaGreatQ01
import Derived.Test.YtbdealmkmpnpoaaGreatQ02
import Derived.Test.YtbdealmkmpnpoaaGreatQ03
import Derived.Test.YtbdealmkmpnpoaaGreatQ04
import Derived.Test.YtbdealmkmpnpoaaGreatQ05
import Derived.Test.YtbdealmkmpnpoaaGreatQ06
import Derived.Test.YtbdealmkmpnpoaaGreatQ07
import Derived.Test.YtbdealmkmpnpoaaGreatQ08
set_option linter.all false
namespace Go.Proofs.YtbdealmkmpnpoaaGreat.M
open Go.RowKit
abbrev z8 (W:World) (q:Nat) (n:BN Sl) (ka:Option Addr) (kc:Nat) (va:Option Addr) (vc:Nat) (ha:Option Addr) (hc:Nat):Prop:=W.cell? ⟨q,113,none⟩=some (.bool false)∧W.cell? ⟨q,114,none⟩=some (.slice ka n.keys.length kc)∧W.cell? ⟨q,115,none⟩=some (.slice va 0 vc)∧W.cell? ⟨q,116,none⟩=some (.slice ha n.kids.length hc)∧W.cell? ⟨q,117,none⟩=some (.string n.high)∧W.cell? ⟨q,118,none⟩=some (.bool n.bnd)∧W.cell? ⟨q,119,none⟩=some (.int .i64 n.next.1)∧W.cell? ⟨q,120,none⟩=some (.int .u64 n.next.2)
theorem inn_range {w:World} {q:Nat} {g u:Value} {ic:List Value} {t:TypeId} (h:w.heap[q]?=some (.cells (g::u::(zlc++ic)).toArray t)):w.rangeAt q 113 ic:=fun j v hv=>by
 rw [cell_of_heap h]
 have h2:(g::u::(zlc++ic))[113+j]?=some v:=by
  rw [show g::u::(zlc++ic)=(g::u::zlc)++ic from rfl,List.getElem?_append_right (by rw [List.length_cons,List.length_cons,zlc_len];omega),List.length_cons,List.length_cons,zlc_len,show 113+j - (111+1+1)=j by omega];exact hv
 rw [zg1]
 exact h2
theorem low_cell {w:World} {q:Nat} {g u:Value} {L:List Value} {t:TypeId} (h:w.heap[q]?=some (.cells (g::u::L).toArray t)):w.cell? ⟨q,1,none⟩=some u:=by rw [cell_of_heap h];rfl
section
variable {w0 w:World} {T:TS} {Y:List Ly} {C:Cont Str} {l:Ly}
theorem MTr.node (h : MTr w0 w T Y C) {x : Hd × BN Sl} (hx : x ∈ flat Y) : ∃ (e : AEnt) (n : ND), (x.1, n) ∈ T.F ∧ n.bn = x.2 ∧ e ∈ T.d.A.L ∧ (e.slot : Int) = x.1.1 ∧ e.gen = x.1.2 ∧ w.heap[e.blk]? = some (.cells (.int .u64 e.gen :: n.cs).toArray 192) ∧ Seen w n ∧
    ∀ W,Below w.heap.size w W→Calls Tryz.prog 62 #[.pointer (some ⟨T.d.A.a,0,none⟩),hV x.1] W fun y W'=>y=.returned (.tuple #[.pointer (some ⟨e.blk,1,none⟩),.bool true])∧Below W.heap.size W W':=by
 obtain ⟨z,hz,hzx⟩:=h.mem.1 hx
 subst hzx
 obtain ⟨e,e1,e2,e3,e4,e5⟩:=h.am.get hz
 exact ⟨e,z.2,hz,rfl,e1,e2,e3,e4,⟨⟨T.ρ,h.am.ok z hz⟩,h.kd z hz⟩,e5⟩
theorem hd_info:∃ i0:TypeInfo,Tryz.prog.info? 71=some i0∧i0.zero=some (.agg #[.int .i64 0,.int .u64 0])∧i0.size=2∧i0.bytes=16:=info_parts (show (Tryz.prog.info? 71).map (fun i=>(i.zero,i.size,i.bytes))=some (some (.agg #[.int .i64 0,.int .u64 0]),2,16) by kernel_rfl)
def PathEnd (w:World) (L:List Hd) (x:Ending) (w':World):Prop:=∃ a c,x=.returned (.slice a L.length c)∧Row w.heap.size 71 2 hcel w' (.slice a L.length c) L∧Below w.heap.size w w'
set_option maxRecDepth 100000 in
set_option maxHeartbeats 2000000 in
theorem MTr.path (h : MTr w0 w T Y C) (hl : l ∈ Y) {m : Mk} (hm : MkOK m) :
    Calls Tryz.prog 108 #[.pointer (some ⟨T.t,0,none⟩),hV l.r,mkV m] w (PathEnd w (pathOf l.Ls (mT m))):=by
 obtain ⟨n0,htop⟩:=h.sane.top l hl
 have htw:=h.sane.ok.tow l hl
 have hll:=h.sane.len l hl
 have hsl:=h.sane.slim l hl
 have hat0:=htw.atTop htop (mT m)
 have c1:=h.am.cells.2.1
 have hl0:0 < l.Ls.length:=by have:=(List.getElem?_eq_some_iff.1 htop).1;omega
 have hEn:=qh fun (x:Hd×BN Sl) (hx:x∈l.Ls.flatten)=>h.node (x:=x) (List.mem_flatMap.2 ⟨l,hl,hx⟩)
 obtain ⟨i0,hi0,hzA,hzB,hzC⟩:=hd_info
 obtain ⟨Ls,hLs⟩:∃ x,x=l.Ls:=⟨_,rfl⟩
 obtain ⟨key,hkey⟩:∃ x,x=mT m:=⟨_,rfl⟩
 obtain ⟨r,hr⟩:∃ x,x=l.r:=⟨_,rfl⟩
 have hTx:=qh fun W=>mkText_any m hm W
 rw [← hkey] at hat0 hTx ⊢
 rw [← hLs] at htop htw hll hsl hl0 hEn ⊢
 rw [← hr] at htop hat0 ⊢
 obtain ⟨t,ht⟩:∃ t,t=T.t:=⟨_,rfl⟩
 obtain ⟨A,hA⟩:∃ a,a=T.d.A.a:=⟨_,rfl⟩
 rw [← ht] at c1 ⊢
 rw [← hA] at c1 hEn
 replace hLs:=qh hLs
 replace hkey:=qh hkey
 replace hr:=qh hr
 replace ht:=qh ht
 replace hA:=qh hA
 have hq:=block_lt_of_cell c1
 replace htop:=qh htop
 replace hat0:=qh hat0
 replace htw:=qh htw
 replace hsl:=qh hsl
 clear h hm hl
 unfold mkV at hTx ⊢
 unfold hV at hEn ⊢
 have hbA:=below_two w (.cells #[.int .i64 r.1,.int .u64 r.2] 71) (.cells #[.int .u64 ((m.s:Nat):Int),.int .u8 ((m.c:Nat):Int)] 90)
 have hmA:=(heap_two w (.cells #[.int .i64 r.1,.int .u64 r.2] 71) (.cells #[.int .u64 ((m.s:Nat):Int),.int .u8 ((m.c:Nat):Int)] 90)).2
 have hsA:((w.alloc (.cells #[.int .i64 r.1,.int .u64 r.2] 71)).alloc (.cells #[.int .u64 ((m.s:Nat):Int),.int .u8 ((m.c:Nat):Int)] 90)).heap.size=w.heap.size+1+1:=by simp
 obtain ⟨wa,hwa⟩:∃ W,W=(w.alloc (.cells #[.int .i64 r.1,.int .u64 r.2] 71)).alloc (.cells #[.int .u64 ((m.s:Nat):Int),.int .u8 ((m.c:Nat):Int)] 90):=⟨_,rfl⟩
 rw [← hwa] at hbA hmA hsA
 have hst:Row wa.heap.size 71 2 hcel (wa.alloc (.cells #[.int .i64 r.1,.int .u64 r.2] 71)) (.slice (some ⟨wa.heap.size,0,none⟩) 1 1) [r] :=
  ⟨hcel_len,hcel_one,rfl,.inr ⟨wa.heap.size,1,_,rfl,Nat.le_refl _,heap_alloc_new _ _,Nat.le_refl _,by unfold maxLen;omega,rfl,rfl⟩⟩
 replace hst:=qh hst
 replace hwa:=qh hwa
 replace hbA:=qh hbA
 replace hmA:=qh hmA
 replace hsA:=qh hsA
 go_enter Tryz.func108,Tryz.ntmps108
 go_wp2_with fail
 rw [← hsA.out,← hwa.out]
 obtain ⟨MB,hMB⟩:∃ b,b=w.heap.size+1:=⟨_,rfl⟩
 rw [← hMB] at hmA ⊢
 replace hMB:=qh hMB
 go_loopg [7] Ls.length (fun gk v wr=>∃ (j:Nat) (R:Lev Sl) (x:Hd×BN Sl) (k b cap:Nat),gk=j+1∧v=.slice (some ⟨b,0,none⟩) (k+1) cap∧Ls[j]?=some R∧atK R key=some x∧k+j+1=Ls.length∧Below wa.heap.size wa wr∧Row wa.heap.size 71 2 hcel wr (.slice (some ⟨b,0,none⟩) (k+1) cap) ((Ls.drop j).map (hdl key)).reverse)
 case atStart =>
  refine ⟨Ls.length - 1,_,_,0,_,_,by omega,rfl,htop.out,hat0.out,by omega,(Below.refl _ _).alloc (Nat.le_refl _) _,?_⟩;have e:=path_step htop.out hat0.out;rw [show Ls.length - 1+1=Ls.length by omega,List.drop_length] at e;rw [e];exact hst.out
 case round =>
  obtain ⟨j,R,x,k0,b,cap,rfl,rfl,hR,hx,hmj,hB,hrow⟩:=hrel;obtain ⟨hxm,hxc⟩:=atK_mem hx;obtain ⟨⟨lo,hno⟩,hlf⟩:(∃ lo,NodeOK lo x.2)∧x.2.leaf=decide (j=0):=⟨(htw.out.ok j R hR).node hxm,(htw.out.ok j R hR).lf x hxm⟩;obtain ⟨e,nd,_,hbn,_,_,_,hcel0,hseen,hG⟩:=hEn.out x (mem_flat hR hxm)
  have hdn:Hid (∀ i,j=i+1→∃ S z,Ls[i]?=some S∧atK S key=some z∧x.2.kids[cutE key x.2.keys]?=some z.1):=qh fun i hi=>by
   subst hi;exact htw.out.down hR hx
  have hlen:((Ls.drop j).map (hdl key)).reverse.length=k0+1:=by simp;omega
  have hlast:((Ls.drop j).map (hdl key)).reverse[k0]?=some x.1:=by
   rw [path_step hR hx,List.getElem?_append_right (by simp;omega),show k0 - ((Ls.drop (j+1)).map (hdl key)).reverse.length=0 by simp;omega];rfl
  obtain ⟨b',cap',ev,hown,hb1,hb2,hb3,hb4,hb5,hat⟩:=hrow.at hlast;injection ev with ev hle ev2;clear hle;injection ev with ev;injection ev with ev;subst ev ev2;have y0:=hat 0 _ rfl;have y1:=hat 1 _ rfl;clear hat;rw [Nat.add_zero] at y0;have hBw:=hbA.out.trans (hB.mono hbA.out.size);have c1':=keep hBw c1;have hbl:b < wr.heap.size:=hb2;obtain ⟨⟨h1,h2⟩,n⟩:=x;simp only at hno hlf hbn hcel0 hG hdn hxc y0 y1 hlast;have hme:=heap_lt hmA.out;obtain ⟨k,hk⟩:∃ k,k=k0+1:=⟨_,rfl⟩;rw [← hk] at hrow hlen hown ⊢;replace hown:=qh hown;have hb1x:=qh hb1;clear hb1;have hw1:IntKind.i64.wrap ((k:Int) - 1)=k0:=by rw [show ((k:Int) - 1)=k0 by omega];exact IntWalk.i64_in _ (by omega)
  have hmk:k0 < k:=by omega
  have hmk0:(0:Int)≤(k0:Int):=by omega
  have hmk1:(k0:Int) < (k:Int):=by omega
  clear hb3 hb5;have hqw:e.blk < w.heap.size:=heap_lt hcel0;replace hk:=qh hk;replace hmj:=qh hmj;replace hG:=qh hG;replace hB:=qh hB;replace hBw:=qh hBw;replace hrow:=qh hrow;replace hlast:=qh hlast;replace hlen:=qh hlen;replace hcel0:=qh hcel0;replace hbn:=qh hbn;replace hR:=qh hR;replace hx:=qh hx;replace hno:=qh hno;replace hxc:=qh hxc;obtain ⟨q,hq9⟩:∃ q,q=e.blk:=⟨_,rfl⟩;rw [← hq9] at hG hcel0 hqw;clear hxm;replace hq9:=qh hq9;rcases hseen.cases with ⟨f,s1,s2,s3,s4⟩ | ⟨s1,s2,s3,ic,B,s4,s5⟩
  ·rw [hbn.out] at s2
   have hj0:j=0:=by simpa [hlf] using s2
   have xl:=low_cell (s4 ▸ hcel0.out);replace xl:=qh xl;replace s4:=qh s4;replace s3:=qh s3;clear hseen s1;go_upto_region 2 with fail
   go_region_with (go_at_call 62;refine (hG.out _ hBw.out.drew).mono ?_;rintro z w1 ⟨rfl,hb1⟩;have hbw:=hBw.out.drew.trans (hb1.mono hBw.out.drew.size);have hrw:=(hrow.out.below (Below.refl wr.heap.size wr).drew).below hb1;have x1:=keep hbw xl.out;replace hbw:=qh hbw;replace hrw:=qh hrw;clear hb1)
   all_goals
    go_wp2_with fail;go_ret;have hpe:pathOf Ls key=((Ls.drop 0).map (hdl key)).reverse:=by simp [pathOf]
    rw [hj0] at hlen hrw;refine ⟨some ⟨b,0,none⟩,cap,?_,?_,hbw.out⟩
    ·rw [hpe,hlen.out];rfl
    ·rw [hpe,hlen.out]
     exact hrw.out.rebase fun g hg=>by
      rw [hown.out] at hg;injection hg with hg;rw [← hg];exact Nat.le_trans hbA.out.size hb1x.out
  ·rw [hbn.out] at s1 s2 s3 s5
   obtain ⟨i,rfl⟩:∃ i,j=i+1:=by
    rcases Nat.eq_zero_or_pos j with h9 | h9
    ·subst h9;simp [hlf] at s1
    ·exact ⟨j - 1,by omega⟩
   obtain ⟨S,z,hS1x,hz1,hz2⟩:=hdn.out i rfl;have xl:=low_cell (s4 ▸ hcel0.out);have hir:=inn_range (s4 ▸ hcel0.out);have hKd:=qh fun W (hW:Below w.heap.size w W)=>(s5.below hW).kid (key:=key) (g:=z.1) (down_ok hno.out s1) (by show n.keys.length≤1000;omega) rfl hxc.out hz2
   obtain ⟨ka,kc,va,vc,ha,hc,hic,-,-⟩:=s5.cells;replace xl:=qh xl;rw [hic] at hir hKd;have hrr:Hid (∀ W,Below w.heap.size w W→W.cell? ⟨q,113,none⟩=some (.bool false)∧W.cell? ⟨q,114,none⟩=some (.slice ka n.keys.length kc)∧W.cell? ⟨q,115,none⟩=some (.slice va 0 vc)∧W.cell? ⟨q,116,none⟩=some (.slice ha n.kids.length hc)∧W.cell? ⟨q,117,none⟩=some (.string n.high)∧W.cell? ⟨q,118,none⟩=some (.bool n.bnd)∧W.cell? ⟨q,119,none⟩=some (.int .i64 n.next.1)∧W.cell? ⟨q,120,none⟩=some (.int .u64 n.next.2)):=qh fun W hW=>⟨keep hW (hir 0 _ rfl),keep hW (hir 1 _ rfl),keep hW (hir 2 _ rfl),keep hW (hir 3 _ rfl),keep hW (hir 4 _ rfl),keep hW (hir 5 _ rfl),keep hW (hir 6 _ rfl),keep hW (hir 7 _ rfl)⟩
   replace hKd:=qh hKd.out;simp only [down] at hKd;clear hir s2 s5;replace s4:=qh s4;replace s1:=qh s1;replace s3:=qh s3;replace hS1x:=qh hS1x;replace hz1:=qh hz1;replace hz2:=qh hz2;replace hic:=qh hic;clear hseen;go_upto_region 2 with fail
   go_region_with (go_at_call 62;refine (hG.out _ hBw.out.drew).mono ?_;rintro z w1 ⟨rfl,hb1⟩;have hbw:=hBw.out.drew.trans (hb1.mono hBw.out.drew.size);have hrw:=(hrow.out.below (Below.refl wr.heap.size wr).drew).below hb1;have hma:=Below.heap' (hB.out.drew.trans (hb1.mono hB.out.drew.size)) hmA.out;have hBa:=hB.out.drew.trans (hb1.mono hB.out.drew.size);have x1:=keep hbw xl.out;replace hbw:=qh hbw;replace hrw:=qh hrw;replace hma:=qh hma;replace hBa:=qh hBa;clear hb1)
   all_goals
    go_upto_region 5 with fail;obtain ⟨i1,i2,i3,i4,i5,i6,i7,i8⟩:=hrr.out w1 hbw.out;obtain ⟨n1,n2,nq,-,-⟩:=box2 hma.out;have hq1:=Nat.lt_of_lt_of_le hqw hbw.out.size;refine wp_region_held_drew (S:=fun W'=>z8 W' q n ka kc va vc ha hc∧W'.heap[MB]?=some (.cells #[.int .u64 ((m.s:Nat):Int),.int .u8 ((m.c:Nat):Int)] 90)) rfl ⟨⟨i1,i2,i3,i4,i5,i6,i7,i8⟩,hma.out⟩ (fun hHeld=>?_);refine tkL 0 ?_;refine tkL 1 ?_;refine tkL 2 ?_;refine tkL 3 ?_ (hz:=by rintro w ⟨⟨e1,e2,e3,e4,e5,e6,e7,e8⟩,hSm⟩;obtain ⟨f1,f2,-,-,-⟩:=box2 hSm;exact zf);refine tkL 4 ?_ (hz:=by rintro w ⟨⟨e1,e2,e3,e4,e5,e6,e7,e8⟩,hSm⟩;obtain ⟨f1,f2,-,-,-⟩:=box2 hSm;exact zf);refine wpAnyH_ready (rs:=[5,10]) (by kernel_rfl) (by simp) ?_;refine (AllReadyH.cons rfl (fun K hK=>?_) (AllReadyH.cons rfl (fun K hK=>?_) AllReadyH.nil))
    ·skip
     have hb0:=(Below.refl w1.heap.size w1).drew;go_simp;go_at_call 97;refine (hTx.out _).mono ?_;rintro z3 w3 ⟨rfl,hb3⟩;have hb5:=hb0.trans (hb3.mono hb0.size);have hS1:z8 w3 q n ka kc va vc ha hc∧w3.heap[MB]?=some (.cells #[.int .u64 ((m.s:Nat):Int),.int .u8 ((m.c:Nat):Int)] 90):=⟨hrr.out _ (hbw.out.trans (hb5.mono hbw.out.size)),Below.heap' hb5 hma.out⟩;replace hb3:=qh hb3;go_wp2_with fail;refine hK.out _ _ hS1 (fun _=>?_);clear hHeld hK K;have hHeld:=hS1;clear hS1
     try simp only [Act.put,zs1,zs2,zs3]
     refine wpAnyH_ready (rs:=[6,10]) (by kernel_rfl) (by simp) ?_;refine (AllReadyH.cons rfl (fun K hK=>?_) (AllReadyH.cons rfl (fun K hK=>?_) AllReadyH.nil))
     ·skip
      go_simp;go_at_call 96;refine (hKd.out _ (hbw.out.trans (hb5.mono hbw.out.size))).mono ?_;rintro z3 w4 ⟨rfl,hb3⟩;have hb6:=hb5.trans (hb3.mono hb5.size);have hS1:z8 w4 q n ka kc va vc ha hc∧w4.heap[MB]?=some (.cells #[.int .u64 ((m.s:Nat):Int),.int .u8 ((m.c:Nat):Int)] 90):=⟨hrr.out _ (hbw.out.trans (hb6.mono hbw.out.size)),Below.heap' hb6 hma.out⟩;replace hb3:=qh hb3;go_wp2_with fail;refine hK.out _ _ hS1 (fun _=>?_);clear hHeld hK K;have hHeld:=hS1;clear hS1
      try simp only [Act.put,zs1,zs2,zs3]
      refine tkL 7 ?_;refine tkL 8 ?_;refine tkL 9 ?_;refine rdL 10 ?_;intro K hK;go_simp;have hb7:=hb6.alloc hb6.size (.cells #[.int .i64 0,.int .u64 0] 71);have kk:=heap_alloc_new w4 (.cells #[.int .i64 0,.int .u64 0] 71);generalize w4.alloc (.cells #[.int .i64 0,.int .u64 0] 71)=w5 at *;obtain ⟨nb,hnb⟩:∃ x,x=w4.heap.size:=⟨_,rfl⟩;have hge:w1.heap.size≤nb:=by rw [hnb];exact hb6.size
      rw [← hnb] at kk ⊢;replace hnb:=qh hnb;replace hge:=qh hge;replace kk:=qh kk;have hS1:z8 w5 q n ka kc va vc ha hc∧w5.heap[MB]?=some (.cells #[.int .u64 ((m.s:Nat):Int),.int .u8 ((m.c:Nat):Int)] 90):=⟨hrr.out _ (hbw.out.trans (hb7.mono hbw.out.size)),Below.heap' hb7 hma.out⟩;refine hK.out _ _ hS1 (fun _=>?_);clear hHeld hK K;have hHeld:=hS1;clear hS1
      try simp only [Act.put,zs1,zs2,zs3]
      have kk6:((w5.setCell ⟨nb,0,none⟩ (.int .i64 z.1.1)).setCell ⟨nb,1,none⟩ (.int .u64 z.1.2)).heap[nb]?=some (.cells #[.int .i64 z.1.1,.int .u64 z.1.2] 71):=by rw [heap_set_same (heap_set_same kk.out 0 _) 1 _];rfl
      have hu8:Upd [nb] w5 ((w5.setCell ⟨nb,0,none⟩ (.int .i64 z.1.1)).setCell ⟨nb,1,none⟩ (.int .u64 z.1.2)):=((Upd.refl [nb] w5).setCell (p:=⟨nb,0,none⟩) (by simp) _).setCell (p:=⟨nb,1,none⟩) (by simp) _;have hb8:Below w1.heap.size w1 ((w5.setCell ⟨nb,0,none⟩ (.int .i64 z.1.1)).setCell ⟨nb,1,none⟩ (.int .u64 z.1.2)):=hb7.trans (hu8.below hb7.size (fun x hx=>by rw [List.mem_singleton.1 hx];exact hge.out));clear hu8;have hS1:z8 ((w5.setCell ⟨nb,0,none⟩ (.int .i64 z.1.1)).setCell ⟨nb,1,none⟩ (.int .u64 z.1.2)) q n ka kc va vc ha hc∧((w5.setCell ⟨nb,0,none⟩ (.int .i64 z.1.1)).setCell ⟨nb,1,none⟩ (.int .u64 z.1.2)).heap[MB]?=some (.cells #[.int .u64 ((m.s:Nat):Int),.int .u8 ((m.c:Nat):Int)] 90):=⟨hrr.out _ (hbw.out.trans (hb8.mono hbw.out.size)),Below.heap' hb8 hma.out⟩;replace hS1:=qh hS1;replace kk6:=qh kk6;replace hb8:=qh hb8;obtain ⟨b0,b1,bq,bf0,bf1⟩:=box2 kk.out;refine rdL 11 ?_;intro K hK;go_simp;replace hS1:=hS1.out;refine hK.out _ _ hS1 (fun _=>?_);clear hHeld hK K;have hHeld:=hS1;clear hS1
      try simp only [Act.put,zs1,zs2,zs3]
      refine tkL 12 ?_;refine wpAnyH_done (by kernel_rfl) ?_ _
      try simp only [Exit.then]
      clear hHeld b0 b1 bq bf0 bf1;generalize ((w5.setCell ⟨nb,0,none⟩ (.int .i64 z.1.1)).setCell ⟨nb,1,none⟩ (.int .u64 z.1.2))=w6 at *;have hBa6:=hBa.out.trans (hb8.out.mono hBa.out.size);have hrw6:=hrw.out.below hb8.out;obtain ⟨g0,g1,gq,-,-⟩:=box2 kk6.out;have hA2:Below w6.heap.size w6 (w6.alloc (.cells #[.int .i64 z.1.1,.int .u64 z.1.2] 71)):=(Below.refl _ _).alloc (Nat.le_refl _) _;have hr5:=qh (hrw6.below hA2);have hs5:=SrcOf.one w6 71 [.int .i64 z.1.1,.int .u64 z.1.2] (by intro y hy;simp at hy;rcases hy with rfl | rfl <;> rfl);replace hs5:=qh hs5;have hbb:=qh (Nat.le_trans hBa6.size hA2.size);have hbel:=qh (hBa6.trans (hA2.mono hBa6.size));have hlm:Hid (((Ls.drop (i+1)).map (hdl key)).reverse.length+1≤maxLen):=qh (by rw [hlen.out];unfold maxLen;have:=hk.out;have:=hmj.out;omega);have hly:Hid ((((Ls.drop (i+1)).map (hdl key)).reverse.length+1)*16≤140737488355328):=qh (by rw [hlen.out];have:=hk.out;have:=hmj.out;omega);clear hA2 hBa6 hrw6
      go_wp2_with (at_builtin;refine wpList_append_row (f:=hcel) (M:=[z.1]) _ rfl _ _ 77 rfl wa.heap.size 71 i0 (.agg #[.int .i64 0,.int .u64 0]) 2 16 Tryz.underlying77 hi0 hzA hzB hzC rfl (by decide) (.slice (some ⟨b,0,none⟩) k cap) ((Ls.drop (i+1)).map (hdl key)).reverse rfl hr5.out _ rfl hs5.out hlm.out hly.out hbb.out ?_;intro a' c' w7 hrow6 hu6 hat6;replace hrow6:=qh hrow6;replace hu6:=qh hu6;replace hat6:=qh hat6)
      have hne:∃ b6,a'=some ⟨b6,0,none⟩:=by
       rcases hrow6.out.cases with ⟨_,h0⟩ | ⟨b6,cap6,e6,_⟩
       ·simp at h0
       ·injection e6 with e6
        exact ⟨b6,e6⟩
      obtain ⟨b6,rfl⟩:=hne;go_roundg (i+1)
      case rel =>
       have hkk:k=Ls.length - (i+1):=by have:=hk.out;have:=hmj.out;omega
       have hll2:((Ls.drop (i+1)).map (hdl key)).reverse.length=k:=hlen.out;have hrow7:=hrow6.out;rw [← path_step hS1x.out hz1.out,hll2] at hrow7;refine ⟨i,S,z,k,b6,c',rfl,by rw [hkk],hS1x.out,hz1.out,by have:=hk.out;have:=hmj.out;omega,hbel.out.trans (hu6.out.below hbb.out (fun y hy=>?_)),hrow7⟩;have:=mem_own hy;rw [hown.out] at this;injection this with this;rw [← this];exact hb1x.out
      case measure=>omega
     ·skip
      go_simp;have hb6:=hb5.alloc hb5.size (.cells #[.int .i64 0,.int .u64 0] 71);have kk:=heap_alloc_new w3 (.cells #[.int .i64 0,.int .u64 0] 71);generalize w3.alloc (.cells #[.int .i64 0,.int .u64 0] 71)=w4 at *;obtain ⟨nb,hnb⟩:∃ x,x=w3.heap.size:=⟨_,rfl⟩;have hge:w1.heap.size≤nb:=by rw [hnb];exact hb5.size
      rw [← hnb] at kk ⊢;replace hnb:=qh hnb;replace hge:=qh hge;replace kk:=qh kk;have hS1:z8 w4 q n ka kc va vc ha hc∧w4.heap[MB]?=some (.cells #[.int .u64 ((m.s:Nat):Int),.int .u8 ((m.c:Nat):Int)] 90):=⟨hrr.out _ (hbw.out.trans (hb6.mono hbw.out.size)),Below.heap' hb6 hma.out⟩;refine hK.out _ _ hS1 (fun _=>?_);clear hHeld hK K;have hHeld:=hS1;clear hS1
      try simp only [Act.put,zs1,zs2,zs3]
      refine rdL 6 ?_;intro K hK;go_simp;go_at_call 96;refine (hKd.out _ (hbw.out.trans (hb6.mono hbw.out.size))).mono ?_;rintro z3 w5 ⟨rfl,hb3⟩;have hb7:=hb6.trans (hb3.mono hb6.size);replace kk:=qh (Below.heap' hb3 kk.out);have hS1:z8 w5 q n ka kc va vc ha hc∧w5.heap[MB]?=some (.cells #[.int .u64 ((m.s:Nat):Int),.int .u8 ((m.c:Nat):Int)] 90):=⟨hrr.out _ (hbw.out.trans (hb7.mono hbw.out.size)),Below.heap' hb7 hma.out⟩;replace hb3:=qh hb3;go_wp2_with fail;refine hK.out _ _ hS1 (fun _=>?_);clear hHeld hK K;have hHeld:=hS1;clear hS1
      try simp only [Act.put,zs1,zs2,zs3]
      refine tkL 7 ?_;refine tkL 8 ?_;refine tkL 9 ?_;have kk6:((w5.setCell ⟨nb,0,none⟩ (.int .i64 z.1.1)).setCell ⟨nb,1,none⟩ (.int .u64 z.1.2)).heap[nb]?=some (.cells #[.int .i64 z.1.1,.int .u64 z.1.2] 71):=by rw [heap_set_same (heap_set_same kk.out 0 _) 1 _];rfl
      have hu8:Upd [nb] w5 ((w5.setCell ⟨nb,0,none⟩ (.int .i64 z.1.1)).setCell ⟨nb,1,none⟩ (.int .u64 z.1.2)):=((Upd.refl [nb] w5).setCell (p:=⟨nb,0,none⟩) (by simp) _).setCell (p:=⟨nb,1,none⟩) (by simp) _;have hb8:Below w1.heap.size w1 ((w5.setCell ⟨nb,0,none⟩ (.int .i64 z.1.1)).setCell ⟨nb,1,none⟩ (.int .u64 z.1.2)):=hb7.trans (hu8.below hb7.size (fun x hx=>by rw [List.mem_singleton.1 hx];exact hge.out));clear hu8;have hS1:z8 ((w5.setCell ⟨nb,0,none⟩ (.int .i64 z.1.1)).setCell ⟨nb,1,none⟩ (.int .u64 z.1.2)) q n ka kc va vc ha hc∧((w5.setCell ⟨nb,0,none⟩ (.int .i64 z.1.1)).setCell ⟨nb,1,none⟩ (.int .u64 z.1.2)).heap[MB]?=some (.cells #[.int .u64 ((m.s:Nat):Int),.int .u8 ((m.c:Nat):Int)] 90):=⟨hrr.out _ (hbw.out.trans (hb8.mono hbw.out.size)),Below.heap' hb8 hma.out⟩;replace hS1:=qh hS1;replace kk6:=qh kk6;replace hb8:=qh hb8;obtain ⟨b0,b1,bq,bf0,bf1⟩:=box2 kk.out;refine rdL 11 ?_;intro K hK;go_simp;replace hS1:=hS1.out;refine hK.out _ _ hS1 (fun _=>?_);clear hHeld hK K;have hHeld:=hS1;clear hS1
      try simp only [Act.put,zs1,zs2,zs3]
      refine tkL 12 ?_;refine wpAnyH_done (by kernel_rfl) ?_ _
      try simp only [Exit.then]
      clear hHeld b0 b1 bq bf0 bf1;generalize ((w5.setCell ⟨nb,0,none⟩ (.int .i64 z.1.1)).setCell ⟨nb,1,none⟩ (.int .u64 z.1.2))=w6 at *;have hBa6:=hBa.out.trans (hb8.out.mono hBa.out.size);have hrw6:=hrw.out.below hb8.out;obtain ⟨g0,g1,gq,-,-⟩:=box2 kk6.out;have hA2:Below w6.heap.size w6 (w6.alloc (.cells #[.int .i64 z.1.1,.int .u64 z.1.2] 71)):=(Below.refl _ _).alloc (Nat.le_refl _) _;have hr5:=qh (hrw6.below hA2);have hs5:=SrcOf.one w6 71 [.int .i64 z.1.1,.int .u64 z.1.2] (by intro y hy;simp at hy;rcases hy with rfl | rfl <;> rfl);replace hs5:=qh hs5;have hbb:=qh (Nat.le_trans hBa6.size hA2.size);have hbel:=qh (hBa6.trans (hA2.mono hBa6.size));have hlm:Hid (((Ls.drop (i+1)).map (hdl key)).reverse.length+1≤maxLen):=qh (by rw [hlen.out];unfold maxLen;have:=hk.out;have:=hmj.out;omega);have hly:Hid ((((Ls.drop (i+1)).map (hdl key)).reverse.length+1)*16≤140737488355328):=qh (by rw [hlen.out];have:=hk.out;have:=hmj.out;omega);clear hA2 hBa6 hrw6
      go_wp2_with (at_builtin;refine wpList_append_row (f:=hcel) (M:=[z.1]) _ rfl _ _ 77 rfl wa.heap.size 71 i0 (.agg #[.int .i64 0,.int .u64 0]) 2 16 Tryz.underlying77 hi0 hzA hzB hzC rfl (by decide) (.slice (some ⟨b,0,none⟩) k cap) ((Ls.drop (i+1)).map (hdl key)).reverse rfl hr5.out _ rfl hs5.out hlm.out hly.out hbb.out ?_;intro a' c' w7 hrow6 hu6 hat6;replace hrow6:=qh hrow6;replace hu6:=qh hu6;replace hat6:=qh hat6)
      have hne:∃ b6,a'=some ⟨b6,0,none⟩:=by
       rcases hrow6.out.cases with ⟨_,h0⟩ | ⟨b6,cap6,e6,_⟩
       ·simp at h0
       ·injection e6 with e6
        exact ⟨b6,e6⟩
      obtain ⟨b6,rfl⟩:=hne;go_roundg (i+1)
      case rel =>
       have hkk:k=Ls.length - (i+1):=by have:=hk.out;have:=hmj.out;omega
       have hll2:((Ls.drop (i+1)).map (hdl key)).reverse.length=k:=hlen.out;have hrow7:=hrow6.out;rw [← path_step hS1x.out hz1.out,hll2] at hrow7;refine ⟨i,S,z,k,b6,c',rfl,by rw [hkk],hS1x.out,hz1.out,by have:=hk.out;have:=hmj.out;omega,hbel.out.trans (hu6.out.below hbb.out (fun y hy=>?_)),hrow7⟩;have:=mem_own hy;rw [hown.out] at this;injection this with this;rw [← this];exact hb1x.out
      case measure=>omega
    ·skip
     have hb0:=Below.refl w1.heap.size w1;go_simp;have hb5:=(hb0.alloc hb0.size (.cells #[.int .i64 0,.int .u64 0] 71)).drew;have kk:(w1.alloc (.cells #[.int .i64 0,.int .u64 0] 71)).drew.heap[w1.heap.size]?=_:=heap_alloc_new w1 (.cells #[.int .i64 0,.int .u64 0] 71);generalize (w1.alloc (.cells #[.int .i64 0,.int .u64 0] 71)).drew=w3 at *;obtain ⟨nb,hnb⟩:∃ x,x=w1.heap.size:=⟨_,rfl⟩;have hge:w1.heap.size≤nb:=by rw [hnb];exact Nat.le_refl _
     rw [← hnb] at kk ⊢;replace hnb:=qh hnb;replace hge:=qh hge;replace kk:=qh kk;have hS1:z8 w3 q n ka kc va vc ha hc∧w3.heap[MB]?=some (.cells #[.int .u64 ((m.s:Nat):Int),.int .u8 ((m.c:Nat):Int)] 90):=⟨hrr.out _ (hbw.out.trans (hb5.mono hbw.out.size)),Below.heap' hb5 hma.out⟩;refine hK.out _ _ hS1 (fun _=>?_);clear hHeld hK K;have hHeld:=hS1;clear hS1
     try simp only [Act.put,zs1,zs2,zs3]
     refine rdL 5 ?_;intro K hK;go_simp;go_at_call 97;refine (hTx.out _).mono ?_;rintro z3 w4 ⟨rfl,hb3⟩;have hb6:=hb5.trans (hb3.mono hb5.size);replace kk:=qh (Below.heap' hb3 kk.out);have hS1:z8 w4 q n ka kc va vc ha hc∧w4.heap[MB]?=some (.cells #[.int .u64 ((m.s:Nat):Int),.int .u8 ((m.c:Nat):Int)] 90):=⟨hrr.out _ (hbw.out.trans (hb6.mono hbw.out.size)),Below.heap' hb6 hma.out⟩;replace hb3:=qh hb3;go_wp2_with fail;refine hK.out _ _ hS1 (fun _=>?_);clear hHeld hK K;have hHeld:=hS1;clear hS1
     try simp only [Act.put,zs1,zs2,zs3]
     refine rdL 6 ?_;intro K hK;go_simp;go_at_call 96;refine (hKd.out _ (hbw.out.trans (hb6.mono hbw.out.size))).mono ?_;rintro z3 w5 ⟨rfl,hb3⟩;have hb7:=hb6.trans (hb3.mono hb6.size);replace kk:=qh (Below.heap' hb3 kk.out);have hS1:z8 w5 q n ka kc va vc ha hc∧w5.heap[MB]?=some (.cells #[.int .u64 ((m.s:Nat):Int),.int .u8 ((m.c:Nat):Int)] 90):=⟨hrr.out _ (hbw.out.trans (hb7.mono hbw.out.size)),Below.heap' hb7 hma.out⟩;replace hb3:=qh hb3;go_wp2_with fail;refine hK.out _ _ hS1 (fun _=>?_);clear hHeld hK K;have hHeld:=hS1;clear hS1
     try simp only [Act.put,zs1,zs2,zs3]
     refine tkL 7 ?_;refine tkL 8 ?_;refine tkL 9 ?_;have kk6:((w5.setCell ⟨nb,0,none⟩ (.int .i64 z.1.1)).setCell ⟨nb,1,none⟩ (.int .u64 z.1.2)).heap[nb]?=some (.cells #[.int .i64 z.1.1,.int .u64 z.1.2] 71):=by rw [heap_set_same (heap_set_same kk.out 0 _) 1 _];rfl
     have hu8:Upd [nb] w5 ((w5.setCell ⟨nb,0,none⟩ (.int .i64 z.1.1)).setCell ⟨nb,1,none⟩ (.int .u64 z.1.2)):=((Upd.refl [nb] w5).setCell (p:=⟨nb,0,none⟩) (by simp) _).setCell (p:=⟨nb,1,none⟩) (by simp) _;have hb8:Below w1.heap.size w1 ((w5.setCell ⟨nb,0,none⟩ (.int .i64 z.1.1)).setCell ⟨nb,1,none⟩ (.int .u64 z.1.2)):=hb7.trans (hu8.below hb7.size (fun x hx=>by rw [List.mem_singleton.1 hx];exact hge.out));clear hu8;have hS1:z8 ((w5.setCell ⟨nb,0,none⟩ (.int .i64 z.1.1)).setCell ⟨nb,1,none⟩ (.int .u64 z.1.2)) q n ka kc va vc ha hc∧((w5.setCell ⟨nb,0,none⟩ (.int .i64 z.1.1)).setCell ⟨nb,1,none⟩ (.int .u64 z.1.2)).heap[MB]?=some (.cells #[.int .u64 ((m.s:Nat):Int),.int .u8 ((m.c:Nat):Int)] 90):=⟨hrr.out _ (hbw.out.trans (hb8.mono hbw.out.size)),Below.heap' hb8 hma.out⟩;replace hS1:=qh hS1;replace kk6:=qh kk6;replace hb8:=qh hb8;obtain ⟨b0,b1,bq,bf0,bf1⟩:=box2 kk.out;refine rdL 11 ?_;intro K hK;go_simp;replace hS1:=hS1.out;refine hK.out _ _ hS1 (fun _=>?_);clear hHeld hK K;have hHeld:=hS1;clear hS1
     try simp only [Act.put,zs1,zs2,zs3]
     refine tkL 12 ?_;refine wpAnyH_done (by kernel_rfl) ?_ _
     try simp only [Exit.then]
     clear hHeld b0 b1 bq bf0 bf1;generalize ((w5.setCell ⟨nb,0,none⟩ (.int .i64 z.1.1)).setCell ⟨nb,1,none⟩ (.int .u64 z.1.2))=w6 at *;have hBa6:=hBa.out.trans (hb8.out.mono hBa.out.size);have hrw6:=hrw.out.below hb8.out;obtain ⟨g0,g1,gq,-,-⟩:=box2 kk6.out;have hA2:Below w6.heap.size w6 (w6.alloc (.cells #[.int .i64 z.1.1,.int .u64 z.1.2] 71)):=(Below.refl _ _).alloc (Nat.le_refl _) _;have hr5:=qh (hrw6.below hA2);have hs5:=SrcOf.one w6 71 [.int .i64 z.1.1,.int .u64 z.1.2] (by intro y hy;simp at hy;rcases hy with rfl | rfl <;> rfl);replace hs5:=qh hs5;have hbb:=qh (Nat.le_trans hBa6.size hA2.size);have hbel:=qh (hBa6.trans (hA2.mono hBa6.size));have hlm:Hid (((Ls.drop (i+1)).map (hdl key)).reverse.length+1≤maxLen):=qh (by rw [hlen.out];unfold maxLen;have:=hk.out;have:=hmj.out;omega);have hly:Hid ((((Ls.drop (i+1)).map (hdl key)).reverse.length+1)*16≤140737488355328):=qh (by rw [hlen.out];have:=hk.out;have:=hmj.out;omega);clear hA2 hBa6 hrw6
     go_wp2_with (at_builtin;refine wpList_append_row (f:=hcel) (M:=[z.1]) _ rfl _ _ 77 rfl wa.heap.size 71 i0 (.agg #[.int .i64 0,.int .u64 0]) 2 16 Tryz.underlying77 hi0 hzA hzB hzC rfl (by decide) (.slice (some ⟨b,0,none⟩) k cap) ((Ls.drop (i+1)).map (hdl key)).reverse rfl hr5.out _ rfl hs5.out hlm.out hly.out hbb.out ?_;intro a' c' w7 hrow6 hu6 hat6;replace hrow6:=qh hrow6;replace hu6:=qh hu6;replace hat6:=qh hat6)
     have hne:∃ b6,a'=some ⟨b6,0,none⟩:=by
      rcases hrow6.out.cases with ⟨_,h0⟩ | ⟨b6,cap6,e6,_⟩
      ·simp at h0
      ·injection e6 with e6
       exact ⟨b6,e6⟩
     obtain ⟨b6,rfl⟩:=hne;go_roundg (i+1)
     case rel =>
      have hkk:k=Ls.length - (i+1):=by have:=hk.out;have:=hmj.out;omega
      have hll2:((Ls.drop (i+1)).map (hdl key)).reverse.length=k:=hlen.out;have hrow7:=hrow6.out;rw [← path_step hS1x.out hz1.out,hll2] at hrow7;refine ⟨i,S,z,k,b6,c',rfl,by rw [hkk],hS1x.out,hz1.out,by have:=hk.out;have:=hmj.out;omega,hbel.out.trans (hu6.out.below hbb.out (fun y hy=>?_)),hrow7⟩;have:=mem_own hy;rw [hown.out] at this;injection this with this;rw [← this];exact hb1x.out
     case measure=>omega
end
open Go.RowKit
theorem node_places:bplaces Tryz.prog 100=some (((Tryz.prog.info? 100).bind (·.zero)).getD undef |>.cells,[(0,1),(1,111),(112,8)]):=by kernel_rfl
theorem node_zero:((((Tryz.prog.info? 100).bind (·.zero)).getD undef).cells)=(Value.bool false::(zlc++zic)).toArray:=by kernel_rfl
theorem build_leaf (cs:List Value) (hcl:cs.length=111):Tryz.prog.built 100 [(0,.bool true),(1,.agg cs.toArray)]=some (Value.bool true::(cs++zic)).toArray:=by
 rw [built_of node_places,node_zero]
 have hz:=zMn_len
 have hl:=zlc_len
 have hi:zic.length=8:=by kernel_rfl
 generalize zlc=z at hz hl ⊢
 generalize zic=y at hz hi ⊢
 rw [fill_cons (off:=0) (size:=1) (c:=[.bool true]) rfl rfl rfl (by rw [List.size_toArray];omega),fill_cons (off:=1) (size:=111) (c:=cs) rfl rfl hcl (by rw [seg_size (by simp only [List.size_toArray,List.length_cons,List.length_nil];omega),List.size_toArray];omega),fill_nil]
 congr 1
 unfold seg
 simp [hcl]
 rw [List.drop_append_of_le_length (by omega),List.drop_of_length_le (by omega),List.nil_append]
theorem build_inn (ic:List Value) (hil:ic.length=8):Tryz.prog.built 100 [(2,.agg ic.toArray)]=some (Value.bool false::(zlc++ic)).toArray:=by
 rw [built_of node_places,node_zero]
 have hz:=zMn_len
 have hl:=zlc_len
 have hi:zic.length=8:=by kernel_rfl
 generalize zlc=z at hz hl ⊢
 generalize zic=y at hz hi ⊢
 rw [fill_cons (off:=112) (size:=8) (c:=ic) rfl rfl hil (by rw [List.size_toArray];omega),fill_nil]
 congr 1
 unfold seg
 simp [hil,hl]
 omega
theorem build_raw (b:Bool):Tryz.prog.built 100 [(0,.bool b)]=some (Value.bool b::(zlc++zic)).toArray:=by
 cases b <;> kernel_rfl
open Go.RowKit
def newN:ND:=⟨.leaf newLF,.bool true::(lfc newLF++zic),[]⟩
theorem newN_ok (w:World) (ρ:Nat→Nat):NOK w ρ newN :=
 ⟨by show (Value.bool true::(lfc newLF++zic)).length=120;rw [List.length_cons,List.length_append,lfc_len newLF_ok.S];rfl,fun q hq=>(by cases hq),fun q hq=>(by cases hq),fun f hf=>by injection hf with hf;subst hf;exact ⟨newLF_ok,rfl⟩,fun b hb=>by cases hb⟩
theorem TEv.own0 {w w1 w':World} {T T1:TS} {S:List Nat} (h:TEv w w1 T T1) (hu:Upd S w1 w') (hS:∀ q,q∈S→w.heap.size≤q):TEv w w' T T1 :=
 ⟨⟨hu.os.trans h.ru.os,hu.tape.trans h.ru.tape,hu.output.trans h.ru.output,Nat.le_trans h.ru.size hu.size,fun k hk hn=>(hu.block k (Nat.lt_of_lt_of_le hk h.ru.size) (fun hm=>by have:=hS k hm;omega)).trans (h.ru.block k hk hn),h.ru.role,fun k hk=>h.ru.far k (Nat.le_trans hu.size hk)⟩,h.P,h.i,h.t,h.a,h.m,h.dl,h.dj,h.fl,h.et⟩
set_option maxRecDepth 100000 in
set_option maxHeartbeats 700000 in
theorem AM.layer {w0 w : World} {T : TS} (h : AM w0 w T) (hfr : true ∈ T.free) (hly : T.ly ≤ 1000000000) : Calls Tryz.prog 47 #[.pointer (some ⟨T.t, 0, none⟩)] w fun e w' =>
    ∃ g:Hd,(∀ z,z∈T.F→z.1≠g)∧e=.returned (.tuple #[hV g,.int .i64 0])∧∃ T',AM w0 w' T'∧TEv w w' T T'∧T'.F=T.F++[(g,newN)]∧T'.n=T.n∧T'.ly=T.ly+1∧T'.r=T.r∧T'.free.count true+1=T.free.count true:=by
 have c1:=h.cells.2.1
 obtain ⟨A,hA⟩:∃ a,a=T.d.A.a:=⟨_,rfl⟩
 rw [← hA] at c1
 have hq:=block_lt_of_cell c1
 have hNw:=qh fun W=>lfNew_any W
 have hbl:=qh (build_leaf (lfc newLF) (lfc_len newLF_ok.S))
 have hAl:=qh fun W (hW:Below w.heap.size w W)=>(h.below hW).alloc newN (newN_ok W _) hfr
 unfold lfV at hNw
 rw [show newN.cs=Value.bool true::(lfc newLF++zic) from rfl] at hAl
 obtain ⟨cn,hcn⟩:∃ c,c=lfc newLF:=⟨_,rfl⟩
 rw [← hcn] at hNw hbl hAl
 rw [← hA] at hAl
 obtain ⟨cz,hcz⟩:∃ c,c=Value.bool true::(cn++zic):=⟨_,rfl⟩
 rw [← hcz] at hbl hAl
 replace hcn:=qh hcn
 replace hcz:=qh hcz
 replace h:=qh h
 replace hA:=qh hA
 have hbz:=(Below.refl w.heap.size w).alloc (Nat.le_refl _) (.cells #[.int .i64 0,.int .u64 0] 71)
 obtain ⟨wa,hwa⟩:∃ W,W=w.alloc (.cells #[.int .i64 0,.int .u64 0] 71):=⟨_,rfl⟩
 rw [← hwa] at hbz
 have c1':=keep hbz c1
 have hzb:wa.heap[w.heap.size]?=some (.cells #[.int .i64 0,.int .u64 0] 71):=by rw [hwa];exact heap_alloc_new _ _
 replace hwa:=qh hwa
 replace hbz:=qh hbz
 replace hzb:=qh hzb
 go_enter Tryz.func47,Tryz.ntmps47
 go_upto_region 1 with fail
 rw [← hwa.out]
 refine wp_region_held_drew (S:=fun W'=>W'.cell? ⟨T.t,1,none⟩=some (.pointer (some ⟨A,0,none⟩))) rfl c1' (fun hHeld=>?_)
 refine tkL 0 ?_
 refine tkL 1 ?_
 refine tkL 2 ?_
 refine tkL 3 ?_ (hz:=by intro w hSw;(try dsimp only at hSw);have e1:=hSw;exact zf)
 refine wpAnyH_ready (rs:=[4,10]) (by kernel_rfl) (by simp) ?_
 refine (AllReadyH.cons rfl (fun K hK=>?_) (AllReadyH.cons rfl (fun K hK=>?_) AllReadyH.nil))
 ·skip
  have hb0:=hbz.out.drew;go_simp;go_at_call 91;refine (hNw.out _).mono ?_;rintro z3 w3 ⟨rfl,hb3⟩;have hb5:=hb0.trans (hb3.mono hb0.size);have hS1:w3.cell? ⟨T.t,1,none⟩=some (.pointer (some ⟨A,0,none⟩)):=keep hb5 c1;replace hb3:=qh hb3;go_wp2_with fail;refine hK.out _ _ hS1 (fun _=>?_);clear hHeld hK K;have hHeld:=hS1;clear hS1
  try simp only [Act.put,zs1,zs2,zs3]
  refine ykL 5 ?_ (hy:=yieldsIf_build (by rfl) 100 _ rfl [(0,.bool true),(1,.agg cn.toArray)] (by rfl) cz.toArray hbl.out);refine wpAnyH_ready (rs:=[6,10]) (by kernel_rfl) (by simp) ?_;refine (AllReadyH.cons rfl (fun K hK=>?_) (AllReadyH.cons rfl (fun K hK=>?_) AllReadyH.nil))
  ·skip
   have hzw:Hid (w3.heap[w.heap.size]?=some (.cells #[.int .i64 0,.int .u64 0] 71)):=qh (Below.heap' hb3.out (show wa.drew.heap[w.heap.size]?=_ from hzb.out));go_simp;go_at_call 90;obtain ⟨g,hg,hC⟩:=hAl.out _ hb5;refine hC.mono ?_;rintro z3 w4 ⟨rfl,T2,t1,t2,t3,t4,t5,t6,t7⟩;have ev2:TEv w w4 T T2:=(TEv.below h.out hb5).trans t2;have hS1:w4.cell? ⟨T.t,1,none⟩=some (.pointer (some ⟨A,0,none⟩)):=by have:=t1.cells.2.1;rw [t2.t,t2.a,← hA.out] at this;exact this
   have hz2:Hid (w4.heap[w.heap.size]?=some (.cells #[.int .i64 0,.int .u64 0] 71)):=qh (t2.ru.heap hzw.out (by rw [h.out.bw.ro.far _ (Nat.le_refl _)];simp;omega));have hzr:Hid (T2.ρ w.heap.size=0):=qh (by rw [t2.ru.role _ (heap_lt hzw.out)];exact h.out.bw.ro.far _ (Nat.le_refl _));replace t1:=qh t1;replace t2:=qh t2;replace t3:=qh t3;replace t4:=qh t4;replace t5:=qh t5;replace t6:=qh t6;replace t7:=qh t7;replace ev2:=qh ev2;replace hg:=qh hg;clear hC;go_wp2_with fail;refine hK.out _ _ hS1 (fun _=>?_);clear hHeld hK K;have hHeld:=hS1;clear hS1
   try simp only [Act.put,zs1,zs2,zs3]
   refine tkL 7 ?_;refine tkL 8 ?_;refine tkL 9 ?_;refine rdL 10 ?_;intro K hK;go_simp;have bx:Below w4.heap.size w4 (w4.alloc (.cells #[.int .i64 0,.int .u64 0] 71)):=(Below.refl _ _).alloc (Nat.le_refl _) _;have kk:(w4.alloc (.cells #[.int .i64 0,.int .u64 0] 71)).heap[w4.heap.size]?=_:=heap_alloc_new w4 (.cells #[.int .i64 0,.int .u64 0] 71);have t1b:=t1.out.below bx;have evb:=ev2.out.own0 (Upd.of_below (S:=[]) bx) (by simp);have hzb2:=Below.heap' bx hz2.out;have hr0:T2.ρ w4.heap.size=0:=t1.out.bw.ro.far _ (Nat.le_refl _);have hge:w.heap.size < w4.heap.size:=heap_lt hz2.out;generalize (w4.alloc (.cells #[.int .i64 0,.int .u64 0] 71))=w5 at *;obtain ⟨nb,hnb⟩:∃ x,x=w4.heap.size:=⟨_,rfl⟩;rw [← hnb] at kk hr0 hge ⊢;clear bx;have hS1:w5.cell? ⟨T.t,1,none⟩=some (.pointer (some ⟨A,0,none⟩)):=by have:=t1b.cells.2.1;rw [evb.t,evb.a,← hA.out] at this;exact this
   replace hnb:=qh hnb;replace kk:=qh kk;replace t1b:=qh t1b;replace evb:=qh evb;replace hzb2:=qh hzb2;replace hr0:=qh hr0;replace hge:=qh hge;refine hK.out _ _ hS1 (fun _=>?_);clear hHeld hK K;have hHeld:=hS1;clear hS1
   try simp only [Act.put,zs1,zs2,zs3]
   have kk6:((w5.setCell ⟨nb,0,none⟩ (.int .i64 g.1)).setCell ⟨nb,1,none⟩ (.int .u64 g.2)).heap[nb]?=some (.cells #[.int .i64 g.1,.int .u64 g.2] 71):=by rw [heap_set_same (heap_set_same kk.out 0 _) 1 _];rfl
   have hu8:Upd [nb] w5 ((w5.setCell ⟨nb,0,none⟩ (.int .i64 g.1)).setCell ⟨nb,1,none⟩ (.int .u64 g.2)):=((Upd.refl [nb] w5).setCell (p:=⟨nb,0,none⟩) (by simp) _).setCell (p:=⟨nb,1,none⟩) (by simp) _;have t1c:=t1b.out.own0 hu8 (fun x hx=>by rw [List.mem_singleton.1 hx];exact ⟨Nat.le_trans h.out.bw.ro.bel.size (Nat.le_of_lt hge.out),hr0.out⟩);have evc:=evb.out.own0 hu8 (fun x hx=>by rw [List.mem_singleton.1 hx];exact Nat.le_of_lt hge.out);have hzc:=hu8.heap hzb2.out (by simp only [List.mem_singleton];exact Nat.ne_of_lt hge.out);clear hu8;have hS1:((w5.setCell ⟨nb,0,none⟩ (.int .i64 g.1)).setCell ⟨nb,1,none⟩ (.int .u64 g.2)).cell? ⟨T.t,1,none⟩=some (.pointer (some ⟨A,0,none⟩)):=by have:=t1c.cells.2.1;rw [evc.t,evc.a,← hA.out] at this;exact this
   replace hS1:=qh hS1;replace kk6:=qh kk6;replace t1c:=qh t1c;replace evc:=qh evc;replace hzc:=qh hzc;obtain ⟨b0,b1,bq,bf0,bf1⟩:=box2 kk.out;refine rdL 11 ?_;intro K hK;go_simp;replace hS1:=hS1.out;refine hK.out _ _ hS1 (fun _=>?_);clear hHeld hK K;have hHeld:=hS1;clear hS1
   try simp only [Act.put,zs1,zs2,zs3]
   refine tkL 12 ?_;refine wpAnyH_done (by kernel_rfl) ?_ _
   try simp only [Exit.then]
   clear hHeld b0 b1 bq bf0 bf1;generalize ((w5.setCell ⟨nb,0,none⟩ (.int .i64 g.1)).setCell ⟨nb,1,none⟩ (.int .u64 g.2))=w6 at *;have hwr:IntKind.i64.wrap (((T2.ly:Nat):Int)+1)=((T2.ly:Nat):Int)+1:=IntWalk.i64_in _ (by rw [t5.out];omega);have hblk:w6.heap[T.t]?=some (.cells (treeC T2.P.1 T2.d.A.a T2.r T2.n T2.ly) 73):=by have:=t1c.out.blk;rw [evc.out.t] at this;exact this
   have c5:w6.cell? ⟨T.t,5,none⟩=some (.int .i64 ((T2.ly:Nat):Int)):=by rw [cell_of_heap hblk];rfl
   have cf:=frozen_of_heap hblk;have ctl:=heap_lt hblk;obtain ⟨g0,g1,gq,gf0,gf1⟩:=box2 kk6.out;obtain ⟨u0,u1,uq,uf0,uf1⟩:=box2 hzc.out;have ht1:T.t≠w.heap.size:=Nat.ne_of_lt hq;have ht2:T.t≠nb:=Nat.ne_of_lt (Nat.lt_trans hq hge.out);have ht3:nb≠T.t:=ht2.symm;have ht4:w.heap.size≠T.t:=ht1.symm;have hu7:Upd [T2.t] w6 (w6.setCell ⟨T.t,5,none⟩ (.int .i64 ((T2.ly:Nat)+1))):=(Upd.refl [T2.t] w6).setCell (p:=⟨T.t,5,none⟩) (by rw [evc.out.t];simp) _;have hb7:(w6.setCell ⟨T.t,5,none⟩ (.int .i64 ((T2.ly:Nat)+1))).heap[T2.t]?=some (.cells (treeC T2.P.1 T2.d.A.a T2.r T2.n (T2.ly+1)) 73):=by rw [evc.out.t,heap_set_same hblk 5 _];rfl
   obtain ⟨a7,ev7⟩:=t1c.out.own T2.r T2.n (T2.ly+1) hu7 hb7;have hz7:(w6.setCell ⟨T.t,5,none⟩ (.int .i64 ((T2.ly:Nat)+1))).heap[w.heap.size]?=_:=hu7.heap hzc.out (by rw [evc.out.t];simpa using ht4);have hu8:Upd [w.heap.size] (w6.setCell ⟨T.t,5,none⟩ (.int .i64 ((T2.ly:Nat)+1))) (((w6.setCell ⟨T.t,5,none⟩ (.int .i64 ((T2.ly:Nat)+1))).setCell ⟨w.heap.size,0,none⟩ (.int .i64 g.1)).setCell ⟨w.heap.size,1,none⟩ (.int .u64 g.2)):=((Upd.refl [w.heap.size] _).setCell (p:=⟨w.heap.size,0,none⟩) (by simp) _).setCell (p:=⟨w.heap.size,1,none⟩) (by simp) _;have hz8:(((w6.setCell ⟨T.t,5,none⟩ (.int .i64 ((T2.ly:Nat)+1))).setCell ⟨w.heap.size,0,none⟩ (.int .i64 g.1)).setCell ⟨w.heap.size,1,none⟩ (.int .u64 g.2)).heap[w.heap.size]?=some (.cells #[.int .i64 g.1,.int .u64 g.2] 71):=by rw [heap_set_same (heap_set_same hz7 0 _) 1 _];rfl
   have a8:=qh (a7.own0 hu8 (fun x hx=>by rw [List.mem_singleton.1 hx];exact ⟨h.out.bw.ro.bel.size,hzr.out⟩));have ev8:=qh ((evc.out.trans ev7).own0 hu8 (fun x hx=>by rw [List.mem_singleton.1 hx];exact Nat.le_refl _));have hld:=qh (run_loadVar_mid (P:=Tryz.prog) _ w.heap.size 0 71 [.int .i64 g.1,.int .u64 g.2] _ (range_of_heap hz8) Tryz.underlying71 rfl (by kernel_rfl));clear hu7 hb7 a7 ev7 hz7 hu8 hz8 hblk;go_wp2_with fail;refine bodyPost_ret (v:=.tuple #[.agg #[.int .i64 g.1,.int .u64 g.2],.int .i64 0]) (by simp [results,Tryz.results47,asAddr,hld.out]) rfl ⟨g,hg.out,rfl,_,a8.out,ev8.out,t3.out,t4.out,by show T2.ly+1=_;rw [t5.out],t6.out,t7.out⟩
  ·skip
   go_simp;have bx:Below w3.heap.size w3 (w3.alloc (.cells #[.int .i64 0,.int .u64 0] 71)):=((Below.refl _ _).alloc (Nat.le_refl _) _);have kk:(w3.alloc (.cells #[.int .i64 0,.int .u64 0] 71)).heap[w3.heap.size]?=_:=heap_alloc_new w3 (.cells #[.int .i64 0,.int .u64 0] 71);have hb6:=hb5.trans (bx.mono hb5.size);have hzw:=Below.heap' bx (Below.heap' hb3.out (show wa.drew.heap[w.heap.size]?=_ from hzb.out));have hge:w.heap.size < w3.heap.size:=heap_lt (Below.heap' hb3.out (show wa.drew.heap[w.heap.size]?=_ from hzb.out));generalize (w3.alloc (.cells #[.int .i64 0,.int .u64 0] 71))=w4 at *;obtain ⟨nb,hnb⟩:∃ x,x=w3.heap.size:=⟨_,rfl⟩;rw [← hnb] at kk hge ⊢;clear bx;have hnl:=qh (heap_lt kk);have hS1:w4.cell? ⟨T.t,1,none⟩=some (.pointer (some ⟨A,0,none⟩)):=keep hb6 c1;replace hnb:=qh hnb;replace kk:=qh kk;replace hzw:=qh hzw;replace hge:=qh hge;refine hK.out _ _ hS1 (fun _=>?_);clear hHeld hK K;have hHeld:=hS1;clear hS1
   try simp only [Act.put,zs1,zs2,zs3]
   refine rdL 6 ?_;intro K hK;go_simp;go_at_call 90;obtain ⟨g,hg,hC⟩:=hAl.out _ hb6;refine hC.mono ?_;rintro z3 w5 ⟨rfl,T2,t1,t2,t3,t4,t5,t6,t7⟩;have ev2:TEv w w5 T T2:=(TEv.below h.out hb6).trans t2;have hS1:w5.cell? ⟨T.t,1,none⟩=some (.pointer (some ⟨A,0,none⟩)):=by have:=t1.cells.2.1;rw [t2.t,t2.a,← hA.out] at this;exact this
   have hz2:Hid (w5.heap[w.heap.size]?=some (.cells #[.int .i64 0,.int .u64 0] 71)):=qh (t2.ru.heap hzw.out (by rw [h.out.bw.ro.far _ (Nat.le_refl _)];simp;omega));have hzr:Hid (T2.ρ w.heap.size=0):=qh (by rw [t2.ru.role _ (heap_lt hzw.out)];exact h.out.bw.ro.far _ (Nat.le_refl _));replace kk:=qh (t2.ru.heap kk.out (by rw [h.out.bw.ro.far _ (Nat.le_of_lt hge.out)];simp;omega));have hr0:Hid (T2.ρ nb=0):=qh (by rw [t2.ru.role _ hnl.out];exact h.out.bw.ro.far _ (Nat.le_of_lt hge.out));replace t1:=qh t1;replace t2:=qh t2;replace t3:=qh t3;replace t4:=qh t4;replace t5:=qh t5;replace t6:=qh t6;replace t7:=qh t7;replace ev2:=qh ev2;replace hg:=qh hg;clear hC;go_wp2_with fail;refine hK.out _ _ hS1 (fun _=>?_);clear hHeld hK K;have hHeld:=hS1;clear hS1
   try simp only [Act.put,zs1,zs2,zs3]
   have t1b:=t1;have evb:=ev2;have hzb2:=hz2;refine tkL 7 ?_;refine tkL 8 ?_;refine tkL 9 ?_;have kk6:((w5.setCell ⟨nb,0,none⟩ (.int .i64 g.1)).setCell ⟨nb,1,none⟩ (.int .u64 g.2)).heap[nb]?=some (.cells #[.int .i64 g.1,.int .u64 g.2] 71):=by rw [heap_set_same (heap_set_same kk.out 0 _) 1 _];rfl
   have hu8:Upd [nb] w5 ((w5.setCell ⟨nb,0,none⟩ (.int .i64 g.1)).setCell ⟨nb,1,none⟩ (.int .u64 g.2)):=((Upd.refl [nb] w5).setCell (p:=⟨nb,0,none⟩) (by simp) _).setCell (p:=⟨nb,1,none⟩) (by simp) _;have t1c:=t1b.out.own0 hu8 (fun x hx=>by rw [List.mem_singleton.1 hx];exact ⟨Nat.le_trans h.out.bw.ro.bel.size (Nat.le_of_lt hge.out),hr0.out⟩);have evc:=evb.out.own0 hu8 (fun x hx=>by rw [List.mem_singleton.1 hx];exact Nat.le_of_lt hge.out);have hzc:=hu8.heap hzb2.out (by simp only [List.mem_singleton];exact Nat.ne_of_lt hge.out);clear hu8;have hS1:((w5.setCell ⟨nb,0,none⟩ (.int .i64 g.1)).setCell ⟨nb,1,none⟩ (.int .u64 g.2)).cell? ⟨T.t,1,none⟩=some (.pointer (some ⟨A,0,none⟩)):=by have:=t1c.cells.2.1;rw [evc.t,evc.a,← hA.out] at this;exact this
   replace hS1:=qh hS1;replace kk6:=qh kk6;replace t1c:=qh t1c;replace evc:=qh evc;replace hzc:=qh hzc;obtain ⟨b0,b1,bq,bf0,bf1⟩:=box2 kk.out;refine rdL 11 ?_;intro K hK;go_simp;replace hS1:=hS1.out;refine hK.out _ _ hS1 (fun _=>?_);clear hHeld hK K;have hHeld:=hS1;clear hS1
   try simp only [Act.put,zs1,zs2,zs3]
   refine tkL 12 ?_;refine wpAnyH_done (by kernel_rfl) ?_ _
   try simp only [Exit.then]
   clear hHeld b0 b1 bq bf0 bf1;generalize ((w5.setCell ⟨nb,0,none⟩ (.int .i64 g.1)).setCell ⟨nb,1,none⟩ (.int .u64 g.2))=w6 at *;have hwr:IntKind.i64.wrap (((T2.ly:Nat):Int)+1)=((T2.ly:Nat):Int)+1:=IntWalk.i64_in _ (by rw [t5.out];omega);have hblk:w6.heap[T.t]?=some (.cells (treeC T2.P.1 T2.d.A.a T2.r T2.n T2.ly) 73):=by have:=t1c.out.blk;rw [evc.out.t] at this;exact this
   have c5:w6.cell? ⟨T.t,5,none⟩=some (.int .i64 ((T2.ly:Nat):Int)):=by rw [cell_of_heap hblk];rfl
   have cf:=frozen_of_heap hblk;have ctl:=heap_lt hblk;obtain ⟨g0,g1,gq,gf0,gf1⟩:=box2 kk6.out;obtain ⟨u0,u1,uq,uf0,uf1⟩:=box2 hzc.out;have ht1:T.t≠w.heap.size:=Nat.ne_of_lt hq;have ht2:T.t≠nb:=Nat.ne_of_lt (Nat.lt_trans hq hge.out);have ht3:nb≠T.t:=ht2.symm;have ht4:w.heap.size≠T.t:=ht1.symm;have hu7:Upd [T2.t] w6 (w6.setCell ⟨T.t,5,none⟩ (.int .i64 ((T2.ly:Nat)+1))):=(Upd.refl [T2.t] w6).setCell (p:=⟨T.t,5,none⟩) (by rw [evc.out.t];simp) _;have hb7:(w6.setCell ⟨T.t,5,none⟩ (.int .i64 ((T2.ly:Nat)+1))).heap[T2.t]?=some (.cells (treeC T2.P.1 T2.d.A.a T2.r T2.n (T2.ly+1)) 73):=by rw [evc.out.t,heap_set_same hblk 5 _];rfl
   obtain ⟨a7,ev7⟩:=t1c.out.own T2.r T2.n (T2.ly+1) hu7 hb7;have hz7:(w6.setCell ⟨T.t,5,none⟩ (.int .i64 ((T2.ly:Nat)+1))).heap[w.heap.size]?=_:=hu7.heap hzc.out (by rw [evc.out.t];simpa using ht4);have hu8:Upd [w.heap.size] (w6.setCell ⟨T.t,5,none⟩ (.int .i64 ((T2.ly:Nat)+1))) (((w6.setCell ⟨T.t,5,none⟩ (.int .i64 ((T2.ly:Nat)+1))).setCell ⟨w.heap.size,0,none⟩ (.int .i64 g.1)).setCell ⟨w.heap.size,1,none⟩ (.int .u64 g.2)):=((Upd.refl [w.heap.size] _).setCell (p:=⟨w.heap.size,0,none⟩) (by simp) _).setCell (p:=⟨w.heap.size,1,none⟩) (by simp) _;have hz8:(((w6.setCell ⟨T.t,5,none⟩ (.int .i64 ((T2.ly:Nat)+1))).setCell ⟨w.heap.size,0,none⟩ (.int .i64 g.1)).setCell ⟨w.heap.size,1,none⟩ (.int .u64 g.2)).heap[w.heap.size]?=some (.cells #[.int .i64 g.1,.int .u64 g.2] 71):=by rw [heap_set_same (heap_set_same hz7 0 _) 1 _];rfl
   have a8:=qh (a7.own0 hu8 (fun x hx=>by rw [List.mem_singleton.1 hx];exact ⟨h.out.bw.ro.bel.size,hzr.out⟩));have ev8:=qh ((evc.out.trans ev7).own0 hu8 (fun x hx=>by rw [List.mem_singleton.1 hx];exact Nat.le_refl _));have hld:=qh (run_loadVar_mid (P:=Tryz.prog) _ w.heap.size 0 71 [.int .i64 g.1,.int .u64 g.2] _ (range_of_heap hz8) Tryz.underlying71 rfl (by kernel_rfl));clear hu7 hb7 a7 ev7 hz7 hu8 hz8 hblk;go_wp2_with fail;refine bodyPost_ret (v:=.tuple #[.agg #[.int .i64 g.1,.int .u64 g.2],.int .i64 0]) (by simp [results,Tryz.results47,asAddr,hld.out]) rfl ⟨g,hg.out,rfl,_,a8.out,ev8.out,t3.out,t4.out,by show T2.ly+1=_;rw [t5.out],t6.out,t7.out⟩
 ·skip
  have hb0:=hbz.out;go_simp;have bx:Below wa.heap.size wa (wa.alloc (.cells #[.int .i64 0,.int .u64 0] 71)).drew:=((Below.refl _ _).alloc (Nat.le_refl _) _).drew;have kk:(wa.alloc (.cells #[.int .i64 0,.int .u64 0] 71)).drew.heap[wa.heap.size]?=_:=heap_alloc_new wa (.cells #[.int .i64 0,.int .u64 0] 71);have hb5:=hb0.trans (bx.mono hb0.size);have hzw:=Below.heap' bx (hzb.out);have hge:w.heap.size < wa.heap.size:=heap_lt (hzb.out);generalize (wa.alloc (.cells #[.int .i64 0,.int .u64 0] 71)).drew=w3 at *;obtain ⟨nb,hnb⟩:∃ x,x=wa.heap.size:=⟨_,rfl⟩;rw [← hnb] at kk hge ⊢;clear bx;have hnl:=qh (heap_lt kk);have hS1:w3.cell? ⟨T.t,1,none⟩=some (.pointer (some ⟨A,0,none⟩)):=keep hb5 c1;replace hnb:=qh hnb;replace kk:=qh kk;replace hzw:=qh hzw;replace hge:=qh hge;refine hK.out _ _ hS1 (fun _=>?_);clear hHeld hK K;have hHeld:=hS1;clear hS1
  try simp only [Act.put,zs1,zs2,zs3]
  refine rdL 4 ?_;intro K hK;go_simp;go_at_call 91;refine (hNw.out _).mono ?_;rintro z3 w4 ⟨rfl,hb3⟩;have hb6:=hb5.trans (hb3.mono hb5.size);have hS1:w4.cell? ⟨T.t,1,none⟩=some (.pointer (some ⟨A,0,none⟩)):=keep hb6 c1;replace kk:=qh (Below.heap' hb3 kk.out);replace hnl:=qh (Nat.lt_of_lt_of_le hnl.out hb3.size);replace hzw:=qh (Below.heap' hb3 hzw.out);replace hb3:=qh hb3;go_wp2_with fail;refine hK.out _ _ hS1 (fun _=>?_);clear hHeld hK K;have hHeld:=hS1;clear hS1
  try simp only [Act.put,zs1,zs2,zs3]
  refine ykL 5 ?_ (hy:=yieldsIf_build (by rfl) 100 _ rfl [(0,.bool true),(1,.agg cn.toArray)] (by rfl) cz.toArray hbl.out);refine rdL 6 ?_;intro K hK;go_simp;go_at_call 90;obtain ⟨g,hg,hC⟩:=hAl.out _ hb6;refine hC.mono ?_;rintro z3 w5 ⟨rfl,T2,t1,t2,t3,t4,t5,t6,t7⟩;have ev2:TEv w w5 T T2:=(TEv.below h.out hb6).trans t2;have hS1:w5.cell? ⟨T.t,1,none⟩=some (.pointer (some ⟨A,0,none⟩)):=by have:=t1.cells.2.1;rw [t2.t,t2.a,← hA.out] at this;exact this
  have hz2:Hid (w5.heap[w.heap.size]?=some (.cells #[.int .i64 0,.int .u64 0] 71)):=qh (t2.ru.heap hzw.out (by rw [h.out.bw.ro.far _ (Nat.le_refl _)];simp;omega));have hzr:Hid (T2.ρ w.heap.size=0):=qh (by rw [t2.ru.role _ (heap_lt hzw.out)];exact h.out.bw.ro.far _ (Nat.le_refl _));replace kk:=qh (t2.ru.heap kk.out (by rw [h.out.bw.ro.far _ (Nat.le_of_lt hge.out)];simp;omega));have hr0:Hid (T2.ρ nb=0):=qh (by rw [t2.ru.role _ hnl.out];exact h.out.bw.ro.far _ (Nat.le_of_lt hge.out));replace t1:=qh t1;replace t2:=qh t2;replace t3:=qh t3;replace t4:=qh t4;replace t5:=qh t5;replace t6:=qh t6;replace t7:=qh t7;replace ev2:=qh ev2;replace hg:=qh hg;clear hC;go_wp2_with fail;refine hK.out _ _ hS1 (fun _=>?_);clear hHeld hK K;have hHeld:=hS1;clear hS1
  try simp only [Act.put,zs1,zs2,zs3]
  have t1b:=t1;have evb:=ev2;have hzb2:=hz2;refine tkL 7 ?_;refine tkL 8 ?_;refine tkL 9 ?_;have kk6:((w5.setCell ⟨nb,0,none⟩ (.int .i64 g.1)).setCell ⟨nb,1,none⟩ (.int .u64 g.2)).heap[nb]?=some (.cells #[.int .i64 g.1,.int .u64 g.2] 71):=by rw [heap_set_same (heap_set_same kk.out 0 _) 1 _];rfl
  have hu8:Upd [nb] w5 ((w5.setCell ⟨nb,0,none⟩ (.int .i64 g.1)).setCell ⟨nb,1,none⟩ (.int .u64 g.2)):=((Upd.refl [nb] w5).setCell (p:=⟨nb,0,none⟩) (by simp) _).setCell (p:=⟨nb,1,none⟩) (by simp) _;have t1c:=t1b.out.own0 hu8 (fun x hx=>by rw [List.mem_singleton.1 hx];exact ⟨Nat.le_trans h.out.bw.ro.bel.size (Nat.le_of_lt hge.out),hr0.out⟩);have evc:=evb.out.own0 hu8 (fun x hx=>by rw [List.mem_singleton.1 hx];exact Nat.le_of_lt hge.out);have hzc:=hu8.heap hzb2.out (by simp only [List.mem_singleton];exact Nat.ne_of_lt hge.out);clear hu8;have hS1:((w5.setCell ⟨nb,0,none⟩ (.int .i64 g.1)).setCell ⟨nb,1,none⟩ (.int .u64 g.2)).cell? ⟨T.t,1,none⟩=some (.pointer (some ⟨A,0,none⟩)):=by have:=t1c.cells.2.1;rw [evc.t,evc.a,← hA.out] at this;exact this
  replace hS1:=qh hS1;replace kk6:=qh kk6;replace t1c:=qh t1c;replace evc:=qh evc;replace hzc:=qh hzc;obtain ⟨b0,b1,bq,bf0,bf1⟩:=box2 kk.out;refine rdL 11 ?_;intro K hK;go_simp;replace hS1:=hS1.out;refine hK.out _ _ hS1 (fun _=>?_);clear hHeld hK K;have hHeld:=hS1;clear hS1
  try simp only [Act.put,zs1,zs2,zs3]
  refine tkL 12 ?_;refine wpAnyH_done (by kernel_rfl) ?_ _
  try simp only [Exit.then]
  clear hHeld b0 b1 bq bf0 bf1;generalize ((w5.setCell ⟨nb,0,none⟩ (.int .i64 g.1)).setCell ⟨nb,1,none⟩ (.int .u64 g.2))=w6 at *;have hwr:IntKind.i64.wrap (((T2.ly:Nat):Int)+1)=((T2.ly:Nat):Int)+1:=IntWalk.i64_in _ (by rw [t5.out];omega);have hblk:w6.heap[T.t]?=some (.cells (treeC T2.P.1 T2.d.A.a T2.r T2.n T2.ly) 73):=by have:=t1c.out.blk;rw [evc.out.t] at this;exact this
  have c5:w6.cell? ⟨T.t,5,none⟩=some (.int .i64 ((T2.ly:Nat):Int)):=by rw [cell_of_heap hblk];rfl
  have cf:=frozen_of_heap hblk;have ctl:=heap_lt hblk;obtain ⟨g0,g1,gq,gf0,gf1⟩:=box2 kk6.out;obtain ⟨u0,u1,uq,uf0,uf1⟩:=box2 hzc.out;have ht1:T.t≠w.heap.size:=Nat.ne_of_lt hq;have ht2:T.t≠nb:=Nat.ne_of_lt (Nat.lt_trans hq hge.out);have ht3:nb≠T.t:=ht2.symm;have ht4:w.heap.size≠T.t:=ht1.symm;have hu7:Upd [T2.t] w6 (w6.setCell ⟨T.t,5,none⟩ (.int .i64 ((T2.ly:Nat)+1))):=(Upd.refl [T2.t] w6).setCell (p:=⟨T.t,5,none⟩) (by rw [evc.out.t];simp) _;have hb7:(w6.setCell ⟨T.t,5,none⟩ (.int .i64 ((T2.ly:Nat)+1))).heap[T2.t]?=some (.cells (treeC T2.P.1 T2.d.A.a T2.r T2.n (T2.ly+1)) 73):=by rw [evc.out.t,heap_set_same hblk 5 _];rfl
  obtain ⟨a7,ev7⟩:=t1c.out.own T2.r T2.n (T2.ly+1) hu7 hb7;have hz7:(w6.setCell ⟨T.t,5,none⟩ (.int .i64 ((T2.ly:Nat)+1))).heap[w.heap.size]?=_:=hu7.heap hzc.out (by rw [evc.out.t];simpa using ht4);have hu8:Upd [w.heap.size] (w6.setCell ⟨T.t,5,none⟩ (.int .i64 ((T2.ly:Nat)+1))) (((w6.setCell ⟨T.t,5,none⟩ (.int .i64 ((T2.ly:Nat)+1))).setCell ⟨w.heap.size,0,none⟩ (.int .i64 g.1)).setCell ⟨w.heap.size,1,none⟩ (.int .u64 g.2)):=((Upd.refl [w.heap.size] _).setCell (p:=⟨w.heap.size,0,none⟩) (by simp) _).setCell (p:=⟨w.heap.size,1,none⟩) (by simp) _;have hz8:(((w6.setCell ⟨T.t,5,none⟩ (.int .i64 ((T2.ly:Nat)+1))).setCell ⟨w.heap.size,0,none⟩ (.int .i64 g.1)).setCell ⟨w.heap.size,1,none⟩ (.int .u64 g.2)).heap[w.heap.size]?=some (.cells #[.int .i64 g.1,.int .u64 g.2] 71):=by rw [heap_set_same (heap_set_same hz7 0 _) 1 _];rfl
  have a8:=qh (a7.own0 hu8 (fun x hx=>by rw [List.mem_singleton.1 hx];exact ⟨h.out.bw.ro.bel.size,hzr.out⟩));have ev8:=qh ((evc.out.trans ev7).own0 hu8 (fun x hx=>by rw [List.mem_singleton.1 hx];exact Nat.le_refl _));have hld:=qh (run_loadVar_mid (P:=Tryz.prog) _ w.heap.size 0 71 [.int .i64 g.1,.int .u64 g.2] _ (range_of_heap hz8) Tryz.underlying71 rfl (by kernel_rfl));clear hu7 hb7 a7 ev7 hz7 hu8 hz8 hblk;go_wp2_with fail;refine bodyPost_ret (v:=.tuple #[.agg #[.int .i64 g.1,.int .u64 g.2],.int .i64 0]) (by simp [results,Tryz.results47,asAddr,hld.out]) rfl ⟨g,hg.out,rfl,_,a8.out,ev8.out,t3.out,t4.out,by show T2.ly+1=_;rw [t5.out],t6.out,t7.out⟩
open Go.Lib
section
variable {β:Type}
def needL:Nat→List Nat→Nat
 | _,[]=>1
 | j,c::cs=>if c < cap j then 0 else 1+needL (j+1) cs
def needOf (j:Nat) (Ls:List (Lev β)) (key:Str):Nat:=needL j (Ls.map (kcount key))
theorem need_step {Ls:List (Lev β)} {key:Str} {i:Nat} {R:Lev β} {x:Hd×BN β} (hR:Ls[i]?=some R) (hx:atK R key=some x):needOf i (Ls.drop i) key=if x.2.keys.length < cap i then 0 else 1+needOf (i+1) (Ls.drop (i+1)) key:=by
 obtain ⟨hi,e⟩:=List.getElem?_eq_some_iff.1 hR
 unfold needOf
 rw [List.drop_eq_getElem_cons hi,e,List.map_cons,needL,kcount_of hx]
theorem needL_le:∀ (l:List Nat) (j:Nat),needL j l≤l.length+1
 | [],_=>by simp [needL]
 | c::cs,j=>by
  have:=needL_le cs (j+1);unfold needL;split <;> simp <;> omega
theorem need_le {Ls:List (Lev β)} {key:Str} {j:Nat}:needOf j Ls key≤Ls.length+1:=by
 unfold needOf
 have:=needL_le (Ls.map (kcount key)) j
 simpa using this
theorem csum_cons_lt (f:Str×β→Nat) {C:Cont β} {k:Str} {v:β} {p:Str×β} (h:slt p.1 k=true):((cput (p::C) k v).map f).sum=f p+((cput C k v).map f).sum:=by
 unfold cput
 rw [List.filter_cons,List.filter_cons,h,slt_asymm h]
 simp
theorem csum_put (f:Str×β→Nat):∀ {C:Cont β} {k:Str} {v:β},CSort C→((cput C k v).map f).sum+(match cget C k with | some o=>f (k,o) | none=>0)=(C.map f).sum+f (k,v)
 | [],k,v,_=>by simp [cput,cget]
 | p::C,k,v,h=>by
  obtain ⟨h1,h2⟩:=List.pairwise_cons.1 h
  cases h3:slt p.1 k
  ·have hr : ∀ q, q ∈ C → slt k q.1 = true := fun q hq => by
     have h5:=h1 q hq
     cases h4:slt k p.1
     ·rw [← slt_eq h3 h4];exact h5
     ·exact slt_trans h4 h5
   have a1:C.filter (fun q=>slt q.1 k)=[]:=filter_none fun q hq=>slt_asymm (hr q hq)
   have a2:C.filter (fun q=>slt k q.1)=C:=filter_all fun q hq=>hr q hq
   cases h4:slt k p.1
   ·have e:=slt_eq h3 h4
    have:cget (p::C) k=some p.2:=by simp [cget,e]
    rw [this];unfold cput;rw [List.filter_cons,List.filter_cons,a1,a2,h3,h4];obtain ⟨p1,p2⟩:=p;simp only at e;subst e;simp;omega
   ·have hne:p.1≠k:=fun e=>by rw [e,slt_irrefl] at h4;cases h4
    have:cget (p::C) k=none:=by
     unfold cget;rw [find_none]
     ·rfl
     ·intro q hq
      rcases List.mem_cons.1 hq with rfl | hq
      ·simpa using hne
      ·have:=hr q hq
       refine decide_eq_false fun e=>?_
       rw [e,slt_irrefl] at this
       cases this
    rw [this];unfold cput;rw [List.filter_cons,List.filter_cons,a1,a2,h3,h4];simp;omega
  ·have hne:p.1≠k:=fun e=>by rw [e,slt_irrefl] at h3;cases h3
   have hg:cget (p::C) k=cget C k:=by unfold cget;rw [List.find?_cons,decide_eq_false hne]
   have ih:=csum_put f (v:=v) (k:=k) h2;rw [csum_cons_lt f h3,hg,List.map_cons,List.sum_cons];omega
theorem csum_del (f:Str×β→Nat):∀ {C:Cont β} {k:Str},((cdel C k).map f).sum≤(C.map f).sum
 | [],_=>by simp [cdel]
 | p::C,k=>by
  have ih:=csum_del f (C:=C) (k:=k);unfold cdel at ih ⊢;rw [List.filter_cons];split <;> simp <;> omega
end
section
variable {γ:Type} {F N:List Ly} {l0 l1 l:Ly}
theorem turnL_perm:∀ {F:List Ly},(F.map (·.pre)).Nodup→l0∈F→(turnL F l0 l1).Perm (l1::F.filter fun l=>decide (l.pre≠l0.pre))
 | [],_,h=>by simp at h
 | a::F,hn,h=>by
  rw [List.map_cons,List.nodup_cons] at hn;by_cases e:a.pre=l0.pre
  ·have hno:∀ l,l∈F→l.pre≠l0.pre:=fun l hl e2=>hn.1 (by rw [e,← e2];exact List.mem_map_of_mem hl)
   have e1:turnL F l0 l1=F:=by
    unfold turnL;rw [List.map_congr_left (g:=id) (fun l hl=>by rw [if_neg (hno l hl)];rfl),List.map_id]
   have e2:F.filter (fun l=>decide (l.pre≠l0.pre))=F:=List.filter_eq_self.2 fun l hl=>by simpa using hno l hl
   rw [List.filter_cons,if_neg (by simpa using e),e2]
   show ((if a.pre=l0.pre then l1 else a)::turnL F l0 l1).Perm _
   rw [if_pos e,e1]
  ·have hm : l0 ∈ F := by
     rcases List.mem_cons.1 h with h | h
     ·exact absurd (by rw [h]) e
     ·exact h
   have ih:=turnL_perm hn.2 hm;rw [List.filter_cons,if_pos (by simpa using e)]
   show ((if a.pre=l0.pre then l1 else a)::turnL F l0 l1).Perm _
   rw [if_neg e];exact (ih.cons a).trans (List.Perm.swap _ _ _)
theorem turnL_self (hn:(F.map (·.pre)).Nodup) (hl0:l0∈F):turnL F l0 l0=F:=by
 unfold turnL
 rw [List.map_congr_left (g:=id) (fun l hl=>?_),List.map_id]
 split
 ·rename_i e
  exact (nd_uniq hn hl hl0 e).symm
 ·rfl
where
 nd_uniq:∀ {F:List Ly} {a b:Ly},(F.map (·.pre)).Nodup→a∈F→b∈F→a.pre=b.pre→a=b
  | [],_,_,_,h,_,_=>by simp at h
  | x::F,a,b,hn,ha,hb,e=>by
   rw [List.map_cons,List.nodup_cons] at hn;rcases List.mem_cons.1 ha with h1 | h1 <;> rcases List.mem_cons.1 hb with h2 | h2
   ·rw [h1,h2]
   ·exact absurd (by rw [← h1,e];exact List.mem_map_of_mem h2) hn.1
   ·exact absurd (by rw [← h2,← e];exact List.mem_map_of_mem h1) hn.1
   ·exact nd_uniq hn.2 h1 h2 e
theorem turnL_pre (hp:l1.pre=l0.pre):(turnL F l0 l1).map (·.pre)=F.map (·.pre):=by
 unfold turnL
 rw [List.map_map]
 refine List.map_congr_left fun l _=>?_
 simp only [Function.comp]
 split
 ·rename_i e;rw [hp,e]
 ·rfl
theorem turnL_len:(turnL F l0 l1).length=F.length:=List.length_map _
def rest1 (F:List Ly) (l0:Ly):List Ly:=F.filter fun l=>decide (l.pre≠l0.pre)
theorem flat_turn (hn:(F.map (·.pre)).Nodup) (hl0:l0∈F):((turnL F l0 l1).flatMap fun l=>l.Ls.flatten).Perm (l1.Ls.flatten++(rest1 F l0).flatMap fun l=>l.Ls.flatten):=by
 have:=(turnL_perm (l1:=l1) hn hl0).flatMap_right (fun l=>l.Ls.flatten)
 simpa [rest1] using this
theorem flat_self (hn:(F.map (·.pre)).Nodup) (hl0:l0∈F):(F.flatMap fun l=>l.Ls.flatten).Perm (l0.Ls.flatten++(rest1 F l0).flatMap fun l=>l.Ls.flatten):=by
 have:=flat_turn (l1:=l0) hn hl0
 rw [turnL_self hn hl0] at this
 exact this
theorem sum_turn (g:Ly→Nat) (hn:(F.map (·.pre)).Nodup) (hl0:l0∈F):((turnL F l0 l1).map g).sum=g l1+((rest1 F l0).map g).sum:=by
 have:=((turnL_perm (l1:=l1) hn hl0).map g).sum_nat
 simpa [rest1] using this
theorem sum_self (g:Ly→Nat) (hn:(F.map (·.pre)).Nodup) (hl0:l0∈F):(F.map g).sum=g l0+((rest1 F l0).map g).sum:=by
 have:=sum_turn (l1:=l0) g hn hl0
 rw [turnL_self hn hl0] at this
 exact this
end
def lvs (F:List Ly):Nat:=(F.map fun l=>leaves l.Ls).sum
def ptS (s:Sl):Nat:=if (bl s.rest).length=0 then 0 else (bl s.rest).length+8
def ptL (l:Ly):Nat:=((content l.Ls).map fun x=>ptS x.2).sum
def pot (F:List Ly):Nat:=16*(F.length - 1)+(F.map ptL).sum
structure WB (F:List Ly) (lv pt:Nat):Prop where
 slim:∀ l,l∈F→Slim l.Ls
 thk:∀ l,l∈F→Thick l.Ls
 top:∀ l,l∈F→∃ n,l.Ls[l.Ls.length - 1]?=some [(l.r,n)]
 pre:∀ l,l∈F→l.pre.length≤pt
 rst:∀ l,l∈F→∀ x,x∈content l.Ls→(bl x.2.rest).length≤pt
 lv:lvs F≤lv
 pot:pot F≤pt
section
variable {F N:List Ly} {l0 l1 l:Ly} {lv pt lv' pt':Nat}
theorem le_lvs:∀ {F:List Ly},l∈F→leaves l.Ls≤lvs F
 | [],h=>by simp at h
 | a::F,h=>by
  rcases List.mem_cons.1 h with rfl | h
  ·simp [lvs]
  ·have:=le_lvs h
   simp only [lvs,List.map_cons,List.sum_cons] at this ⊢;omega
theorem WB.sane (h:WB F lv pt) (hM:MOK F) (hn:((F.flatMap fun l=>l.Ls.flatten).map (·.1)).Nodup) (hlv:lv≤10000) (hpt:pt≤1000000):SaneY F:=by
 have hs:∀ l,l∈F→nodes l.Ls+1≤2*leaves l.Ls∧2 ^ (l.Ls.length - 1)≤leaves l.Ls∧leaves l.Ls≤10000:=fun l hl=>by
  obtain ⟨h1,h2,_⟩:=(hM.tow l hl).size (h.thk l hl);have:=le_lvs hl;have:=h.lv;exact ⟨h1,h2,by omega⟩
 refine ⟨hM,h.slim,fun l hl=>?_,fun l hl=>?_,h.top,hn,fun l hl=>?_,fun l hl x hx=>?_⟩
 ·obtain ⟨_,h2,h3⟩:=hs l hl
  have:l.Ls.length - 1 < 14:=(Nat.pow_lt_pow_iff_right (a:=2) (by omega)).1 (Nat.lt_of_le_of_lt (Nat.le_trans h2 h3) (by omega));omega
 ·obtain ⟨h1,_,h3⟩:=hs l hl
  omega
 ·have:=h.pre l hl;omega
 ·have:=h.rst l hl x hx;omega
theorem WB.mono (h:WB F lv pt) (h1:lv≤lv') (h2:pt≤pt'):WB F lv' pt' :=
 ⟨h.slim,h.thk,h.top,fun l hl=>Nat.le_trans (h.pre l hl) h2,fun l hl x hx=>Nat.le_trans (h.rst l hl x hx) h2,Nat.le_trans h.lv h1,Nat.le_trans h.pot h2⟩
theorem WB.turn (h : WB F lv pt) (hn : (F.map (·.pre)).Nodup) (hl0 : l0 ∈ F) (hp : l1.pre = l0.pre) (hs : Slim l1.Ls) (hk : Thick l1.Ls) (ht : ∃ n, l1.Ls[l1.Ls.length - 1]? = some [(l1.r, n)])
    (hr:∀ x,x∈content l1.Ls→(bl x.2.rest).length≤pt') (hl:leaves l1.Ls+lv≤leaves l0.Ls+lv') (hpt:pt≤pt') (hq:ptL l1+pt≤ptL l0+pt'):WB (turnL F l0 l1) lv' pt':=by
 have hm:=turnL_mem (l1:=l1) hl0
 refine ⟨fun l hl=>?_,fun l hl=>?_,fun l hl=>?_,fun l hl=>?_,fun l hl x hx=>?_,?_,?_⟩
 ·rcases (hm l).1 hl with rfl | ⟨h1,_⟩
  ·exact hs
  ·exact h.slim l h1
 ·rcases (hm l).1 hl with rfl | ⟨h1,_⟩
  ·exact hk
  ·exact h.thk l h1
 ·rcases (hm l).1 hl with rfl | ⟨h1,_⟩
  ·exact ht
  ·exact h.top l h1
 ·rcases (hm l).1 hl with rfl | ⟨h1,_⟩
  ·rw [hp];exact Nat.le_trans (h.pre l0 hl0) hpt
  ·exact Nat.le_trans (h.pre l h1) hpt
 ·rcases (hm l).1 hl with rfl | ⟨h1,_⟩
  ·exact hr x hx
  ·exact Nat.le_trans (h.rst l h1 x hx) hpt
 ·have e1:=sum_turn (l1:=l1) (fun l=>leaves l.Ls) hn hl0
  have e2:=sum_self (fun l=>leaves l.Ls) hn hl0;have:=h.lv;unfold lvs at this ⊢;omega
 ·have e1:=sum_turn (l1:=l1) ptL hn hl0
  have e2:=sum_self ptL hn hl0;have:=h.pot;unfold M.pot at this ⊢;rw [turnL_len];omega
theorem WB.app (h : WB F lv pt) (h0 : F ≠ []) (hs : ∀ l, l ∈ N → Slim l.Ls) (ht : ∀ l, l ∈ N → ∃ n, l.Ls = [[(l.r, n)]]) (hp : ∀ l, l ∈ N → l.pre.length ≤ pt') (hr : ∀ l, l ∈ N → ∀ x, x ∈ content l.Ls → (bl x.2.rest).length ≤ pt') (hpt : pt ≤ pt')
    (hq:(F.map ptL).sum+16*(F.length - 1)+16*N.length+(N.map ptL).sum≤pt'):WB (F++N) (lv+N.length) pt':=by
 have hF:1≤F.length:=List.length_pos_iff.2 h0
 refine ⟨fun l hl=>?_,fun l hl=>?_,fun l hl=>?_,fun l hl=>?_,fun l hl x hx=>?_,?_,?_⟩
 ·rcases List.mem_append.1 hl with h1 | h1
  ·exact h.slim l h1
  ·exact hs l h1
 ·rcases List.mem_append.1 hl with h1 | h1
  ·exact h.thk l h1
  ·obtain ⟨n,e⟩:=ht l h1
   rw [e];intro i R hR hi;rw [List.getElem?_eq_none (by simp;omega)] at hR
   cases hR
 ·rcases List.mem_append.1 hl with h1 | h1
  ·exact h.top l h1
  ·obtain ⟨n,e⟩:=ht l h1
   exact ⟨n,by rw [e];rfl⟩
 ·rcases List.mem_append.1 hl with h1 | h1
  ·exact Nat.le_trans (h.pre l h1) hpt
  ·exact hp l h1
 ·rcases List.mem_append.1 hl with h1 | h1
  ·exact Nat.le_trans (h.rst l h1 x hx) hpt
  ·exact hr l h1 x hx
 ·have h1:=h.lv
  have h2:∀ (N:List Ly),(∀ l,l∈N→∃ n,l.Ls=[[(l.r,n)]])→(N.map fun l=>leaves l.Ls).sum=N.length:=by
   intro N
   induction N with
   | nil=>intro _;rfl
   | cons a N ih =>
    intro ht;obtain ⟨n,e⟩:=ht a (by simp);rw [List.map_cons,List.sum_cons,ih fun l hl=>ht l (by simp [hl]),e];simp [leaves];omega
  have h3:=h2 N ht;unfold lvs at h1 ⊢;rw [List.map_append,List.sum_append,h3];omega
 ·unfold M.pot
  rw [List.map_append,List.sum_append,List.length_append];omega
end
theorem alk_lt:∀ (n:Nat) (a b:Byt),a.length≤n→a≠[]→b≠[]→8*alk a b < a.length∧8*alk a b < b.length
 | 0,a,b,hn,ha,_=>absurd (List.eq_nil_of_length_eq_zero (by omega)) ha
 | n+1,a,b,hn,ha,hb=>by
  by_cases h:8 < a.length∧8 < b.length∧a.take 8=b.take 8
  ·have ih:=alk_lt n (a.drop 8) (b.drop 8) (by rw [List.length_drop];omega) (fun e=>by have:=List.drop_eq_nil_iff.1 e;omega) (fun e=>by have:=List.drop_eq_nil_iff.1 e;omega)
   rw [alk_step h];rw [List.length_drop,List.length_drop] at ih;omega
  ·rw [alk_stop h]
   have:=List.length_pos_iff.2 ha;have:=List.length_pos_iff.2 hb;omega
theorem ptS_of (a:Byt) (v:Str):ptS (slOf a v)=if a.length≤8 then 0 else a.length:=by
 unfold ptS slOf
 simp only [bl_bs,List.length_drop]
 split <;> split <;> omega
theorem alk_ne:∀ (n:Nat) (a b:Byt),a.length≤n→alk a b=0→a≠b→mkOf a≠mkOf b:=fun n a b _ h0 hne e=>by
 rcases mk_eq e with h | h
 ·exact hne h
 ·rw [alk_step h] at h0
  omega
theorem bothN_len:∀ (hs:List Hd) (p a b:Byt) (v w:Str),(bothN p a b v w hs).length=hs.length
 | [],_,_,_,_,_=>rfl
 | [_],_,_,_,_,_=>rfl
 | h::g::hs,p,a,b,v,w=>by
  show (bothN _ _ _ v w (g::hs)).length+1=_
  rw [bothN_len (g::hs)];rfl
theorem bothN_is : ∀ (hs : List Hd) (h : Hd) (p a b : Byt) (v w : Str), hs.length = alk a b → a ≠ b → a ≠ [] → b ≠ [] →
    (∀ l,l∈bothN p a b v w (h::hs)→(∃ n,l.Ls=[[(l.r,n)]])∧Slim l.Ls∧l.pre.length≤p.length+8*hs.length∧∀ x,x∈content l.Ls→(bl x.2.rest).length≤max a.length b.length) ∧
    ((bothN p a b v w (h::hs)).map ptL).sum=ptS (slOf (a.drop (8*hs.length)) v)+ptS (slOf (b.drop (8*hs.length)) w)
 | [],h,p,a,b,v,w,hl,hne,ha,hb=>by
  have hm:=alk_ne _ a b (Nat.le_refl _) hl.symm hne;have hmt:mT (mkOf a)≠mT (mkOf b):=fun e=>hm (mT_inj (mkOf_b _) (mkOf_b _) e)
  have hmem:=two_mem (v:=v) (w:=w) (h:=h) hm;have hc:=(two_ok a b v w h).2
  have hkl:(two a b v w).keys.length≤2:=by
   unfold two;have h1:=(put_ends (lf0.put (mT (mkOf a)) (slOf a v)) (mT (mkOf b)) (slOf b w)).2.2.2.2.2;have h2:=(put_ends lf0 (mT (mkOf a)) (slOf a v)).2.2.2.2.2;have h3:lf0.keys.length=0:=rfl;rw [h1,h2,h3];split <;> split <;> omega
  refine ⟨fun l hl=>?_,?_⟩
  ·have hl:l∈[Ly.mk p [[(h,two a b v w)]] h]:=hl
   rw [List.mem_singleton.1 hl];refine ⟨⟨_,rfl⟩,?_,by simp,fun x hx=>?_⟩
   ·intro i R hR x hx
    cases i with
    | zero =>
     simp at hR;subst hR;rw [List.mem_singleton.1 hx];have:=(cap_le 0).1
     show (two a b v w).keys.length≤_
     omega
    | succ i=>simp at hR
   ·rcases (hmem x).1 hx with rfl | rfl <;> simp [slOf,bl_bs] <;> omega
  ·show ([Ly.mk p [[(h,two a b v w)]] h].map ptL).sum=_
   have e0:ptL ⟨p,[[(h,two a b v w)]],h⟩=ptS (slOf a v)+ptS (slOf b w):=by
    unfold ptL;rw [hc];have:=csum_put (fun x:Str×Sl=>ptS x.2) (C:=[(mT (mkOf a),slOf a v)]) (k:=mT (mkOf b)) (v:=slOf b w) (List.pairwise_singleton _ _)
    have hg:cget [(mT (mkOf a),slOf a v)] (mT (mkOf b))=none:=by
     unfold cget;rw [List.find?_cons,decide_eq_false hmt];rfl
    rw [hg] at this;simpa using this
   simp [e0]
 | g::hs,h,p,a,b,v,w,hl,hab,ha,hb=>by
  have hst:8 < a.length∧8 < b.length∧a.take 8=b.take 8:=Classical.byContradiction fun hn=>by
   rw [alk_stop hn] at hl;simp at hl
  have ha8:a.drop 8≠[]:=fun e=>by have:=List.drop_eq_nil_iff.1 e;omega
  have hb8:b.drop 8≠[]:=fun e=>by have:=List.drop_eq_nil_iff.1 e;omega
  obtain ⟨i1,i2⟩:=bothN_is hs g (p++a.take 8) (a.drop 8) (b.drop 8) v w (by rw [alk_step hst] at hl;simpa using hl) (fun e=>hab (by rw [← List.take_append_drop 8 a,hst.2.2,e,List.take_append_drop])) ha8 hb8;have hc:=(deep1_ok a g h).2
  have hkl:(deep1 a g).keys.length≤1:=by
   unfold deep1;have h2:=(put_ends lf0 (mT (mkOf a)) (slDp a g)).2.2.2.2.2;have h3:lf0.keys.length=0:=rfl;rw [h2,h3];split <;> omega
  refine ⟨fun l hl=>?_,?_⟩
  ·have hl:l∈Ly.mk p [[(h,deep1 a g)]] h::bothN (p++a.take 8) (a.drop 8) (b.drop 8) v w (g::hs):=hl
   rcases List.mem_cons.1 hl with rfl | hl
   ·refine ⟨⟨_,rfl⟩,?_,by simp,fun x hx=>?_⟩
    ·intro i R hR x hx
     cases i with
     | zero =>
      simp at hR;subst hR;rw [List.mem_singleton.1 hx];have:=(cap_le 0).1
      show (deep1 a g).keys.length≤_
      omega
     | succ i=>simp at hR
    ·rw [hc,List.mem_singleton] at hx
     rw [hx];simp [slDp,s0]
   ·obtain ⟨j1,j2,j3,j4⟩:=i1 l hl
    refine ⟨j1,j2,?_,fun x hx=>?_⟩
    ·rw [List.length_append,List.length_take] at j3
     simp only [List.length_cons];omega
    ·have:=j4 x hx
     rw [List.length_drop,List.length_drop] at this;omega
  ·show ((Ly.mk p [[(h,deep1 a g)]] h::bothN (p++a.take 8) (a.drop 8) (b.drop 8) v w (g::hs)).map ptL).sum=_
   have e0:ptL ⟨p,[[(h,deep1 a g)]],h⟩=0:=by
    unfold ptL;rw [hc];rfl
   rw [List.map_cons,List.sum_cons,e0,i2,List.drop_drop,List.drop_drop];simp only [List.length_cons,Nat.zero_add];rw [show 8+8*hs.length=8*(hs.length+1) by omega]
theorem both_pot {a b:Byt} {v w:Str} {n:Nat} (ha:a≠[]) (hb:b≠[]) (hn:n=alk a b):16*(n+1)+(ptS (slOf (a.drop (8*n)) v)+ptS (slOf (b.drop (8*n)) w))≤a.length+8+(b.length+8):=by
 have:=alk_lt _ a b (Nat.le_refl _) ha hb
 rw [← hn] at this
 rw [ptS_of,ptS_of,List.length_drop,List.length_drop]
 split <;> split <;> omega
structure WY (F:List Ly) (lv pt:Nat):Prop where
 ok:MOK F
 wb:WB F lv pt
structure LvOK (Ls Ls':List (Lev Sl)) (D:Cont Sl) (r:Hd):Prop where
 tow:Tower Ls'
 thk:Thick Ls'
 slim:Slim Ls'
 con:content Ls'=D
 lv:leaves Ls'≤leaves Ls+1
 top:∃ n,Ls'[Ls'.length - 1]?=some [(r,n)]
 evo:Evo Ls Ls'
section
variable {F:List Ly} {C:Cont Str} {k v:Str} {i:Nat} {l0 l1 l2 lp lp1:Ly} {s so sp:Sl} {lv pt:Nat} {Ls' Lp':List (Lev Sl)} {r:Hd}
theorem EvoY.turn (hp:l1.pre=l0.pre) (hu:∀ l,l∈F→l.pre=l0.pre→l=l0) (he:Evo l0.Ls l1.Ls):EvoY F (turnL F l0 l1):=fun l hl=>by
 by_cases e:l.pre=l0.pre
 ·refine ⟨l1,List.mem_map.2 ⟨l,hl,if_pos e⟩,hp.trans e.symm,?_⟩
  rw [hu l hl e];exact he
 ·exact ⟨l,List.mem_map.2 ⟨l,hl,if_neg e⟩,rfl,Evo.refl _⟩
theorem turnL_twice (hp:l1.pre=l0.pre):turnL (turnL F l0 l1) l1 l2=turnL F l0 l2:=by
 unfold turnL
 rw [List.map_map]
 refine List.map_congr_left fun l _=>?_
 simp only [Function.comp]
 by_cases e:l.pre=l0.pre
 ·rw [if_pos e,if_pos rfl,if_pos e]
 ·rw [if_neg e,if_neg (by rw [hp];exact e),if_neg e]
theorem relink_eq (hu:∀ l,l∈F→l.pre=l0.pre→l=l0) (hne:l0.pre≠lp.pre) (hp:lp1.pre=lp.pre):relink F l0 lp1 r=turnL (turnL F l0 { l0 with r:=r }) lp lp1:=by
 unfold relink turnL
 rw [List.map_map]
 refine List.map_congr_left fun l hl=>?_
 simp only [Function.comp]
 by_cases e:l.pre=l0.pre
 ·rw [if_pos e,if_pos e,if_neg hne,hu l hl e]
 ·rw [if_neg e,if_neg e,hp]
theorem MOK.reroot (h:MOK F) (hl0:l0∈F) (h0:l0.pre=[]) (hp:l1.pre=l0.pre) (hL:l1.Ls=l0.Ls):MOK (turnL F l0 l1)∧(MCt F C→MCt (turnL F l0 l1) C):=by
 have hm:=turnL_mem (l1:=l1) hl0
 have hto:∀ l,l∈turnL F l0 l1→∃ l',l'∈F∧l'.pre=l.pre∧l'.Ls=l.Ls:=fun l hl=>by
  rcases (hm l).1 hl with rfl | ⟨h1,_⟩
  ·exact ⟨l0,hl0,hp.symm,hL.symm⟩
  ·exact ⟨l,h1,rfl,rfl⟩
 have hfr:∀ l,l∈F→∃ l',l'∈turnL F l0 l1∧l'.pre=l.pre∧l'.Ls=l.Ls:=fun l hl=>by
  by_cases e:l.pre=l0.pre
  ·obtain rfl:=h.uniq hl hl0 e
   exact ⟨l1,(hm l1).2 (.inl rfl),hp,hL⟩
  ·exact ⟨l,(hm l).2 (.inr ⟨hl,e⟩),rfl,rfl⟩
 refine ⟨⟨fun l hl=>?_,fun l hl x hx=>?_,by rw [turnL_pre hp];exact h.pre,?_,fun l hl x hx hd=>?_,fun l hl hne=>?_,fun l hl hne x hx=>?_⟩,fun hct=>⟨hct.srt,fun k' v'=>?_⟩⟩
 ·obtain ⟨l',a,_,c⟩:=hto l hl
  rw [← c];exact h.tow l' a
 ·obtain ⟨l',a,_,c⟩:=hto l hl
  rw [← c] at hx;exact h.key l' a x hx
 ·obtain ⟨a,F',e,e0⟩:=h.root
  refine ⟨_,_,by rw [e];rfl,?_⟩
  show (if a.pre=l0.pre then l1 else a).pre=[]
  split
  ·rw [hp,h0]
  ·exact e0
 ·obtain ⟨l',a,b,c⟩:=hto l hl
  rw [← c] at hx;obtain ⟨l3,d1,d2,d3⟩:=h.down l' a x hx hd
  have hne:l3.pre≠l0.pre:=fun e=>by
   rw [h0,d2] at e;have:=congrArg List.length e;rw [List.length_append,ube_len] at this;simp at this
  exact ⟨l3,(hm l3).2 (.inr ⟨d1,hne⟩),by rw [d2,b],d3⟩
 ·obtain ⟨l',a,b,c⟩:=hto l hl
  rw [← b] at hne;obtain ⟨l3,d1,x,d2,d3,d4⟩:=h.up l' a hne;obtain ⟨l4,e1,e2,e3⟩:=hfr l3 d1;exact ⟨l4,e1,x,by rw [e3];exact d2,d3,by rw [e2,← d4,b]⟩
 ·obtain ⟨l',a,b,c⟩:=hto l hl
  rw [← b] at hne;rw [← c] at hx;exact h.cls l' a hne x hx
 ·rw [hct.mem]
  refine ⟨fun ⟨l,hl,x,hx,q⟩=>?_,fun ⟨l,hl,x,hx,q⟩=>?_⟩
  ·obtain ⟨l',a,b,c⟩:=hfr l hl
   exact ⟨l',a,x,by rw [c];exact hx,by rw [b];exact q⟩
  ·obtain ⟨l',a,b,c⟩:=hto l hl
   exact ⟨l',a,x,by rw [c];exact hx,by rw [b];exact q⟩
theorem keyAt_len (k:Str) (i:Nat):(keyAt k i).length=k.size - 8*i:=by
 show ((bl k).drop (8*i)).length=_
 rw [List.length_drop]
 rfl
theorem rest_slOf (a:Byt) (v:Str):(bl (slOf a v).rest).length≤a.length:=by
 show (bl (bs (a.drop 8))).length≤_
 rw [bl_bs,List.length_drop]
 omega
theorem ptS_le (a:Byt) (v:Str):ptS (slOf a v)≤a.length:=by
 rw [ptS_of]
 split <;> omega
theorem put_sums (h : MOK F) (hl0 : l0 ∈ F) (hcon : content Ls' = cput (content l0.Ls) (mT s.m) s) (hb : ∀ x, x ∈ content l0.Ls → (bl x.2.rest).length ≤ pt) :
    ptL ⟨l0.pre,Ls',r⟩+(match M.cget (content l0.Ls) (mT s.m) with | some o=>ptS o | none=>0)=ptL l0+ptS s∧∀ x,x∈content Ls'→(bl x.2.rest).length≤max pt (bl s.rest).length:=by
 refine ⟨?_,fun x hx=>?_⟩
 ·have:=csum_put (fun x:Str×Sl=>ptS x.2) (h.srt hl0) (k:=mT s.m) (v:=s)
  unfold ptL;rw [hcon]
  cases hg:M.cget (content l0.Ls) (mT s.m) <;> rw [hg] at this <;> simpa using this
 ·rw [hcon] at hx
  have:=(put_iff (l1:=⟨l0.pre,Ls',r⟩) (h.srt hl0) hcon x).1 (by rw [hcon];exact hx);rcases this with rfl | ⟨h1,_⟩
  ·exact Nat.le_max_right _ _
  ·exact Nat.le_trans (hb x h1) (Nat.le_max_left _ _)
theorem WB.put (h:WB F lv pt) (hM:MOK F) (hl0:l0∈F) (hL:LvOK l0.Ls Ls' (cput (content l0.Ls) (mT (slOf (keyAt k i) v).m) (slOf (keyAt k i) v)) r):WB (turnL F l0 ⟨l0.pre,Ls',r⟩) (lv+1) (pt+k.size):=by
 obtain ⟨e1,e2⟩:=put_sums (r:=r) hM hl0 hL.con (h.rst l0 hl0)
 have e3:=ptS_le (keyAt k i) v
 have e4:=rest_slOf (keyAt k i) v
 have e5:=keyAt_len k i
 refine h.turn hM.pre hl0 rfl hL.slim hL.thk hL.top (fun x hx=>?_) (by have:=hL.lv;show leaves Ls'+lv≤_;omega) (by omega) (by omega)
 have:=e2 x hx
 omega
theorem WY.put (h : WY F lv pt) (hct : MCt F C) (ho : On F k i l0) (hold : ∀ so, M.cget (content l0.Ls) (mT (slOf (keyAt k i) v).m) = some so → so.deep = false ∧ so.rest = (slOf (keyAt k i) v).rest)
    (hL:LvOK l0.Ls Ls' (cput (content l0.Ls) (mT (slOf (keyAt k i) v).m) (slOf (keyAt k i) v)) l0.r) :
    WY (turnL F l0 ⟨l0.pre,Ls',l0.r⟩) (lv+1) (pt+k.size)∧MCt (turnL F l0 ⟨l0.pre,Ls',l0.r⟩) (cput C k v)∧EvoY F (turnL F l0 ⟨l0.pre,Ls',l0.r⟩):=by
 obtain ⟨a,b⟩:=MCt.put1 (l1:=⟨l0.pre,Ls',l0.r⟩) h.ok hct ho rfl rfl hL.tow (slOf_ok _ v) rfl (slOf_sb _ v).symm hL.con hold
 exact ⟨⟨a,h.wb.put h.ok ho.mem hL⟩,b,EvoY.turn (l0:=l0) rfl (fun l hl e=>h.ok.uniq hl ho.mem e) hL.evo⟩
theorem WY.putR (h : WY F lv pt) (hct : MCt F C) (ho : On F k 0 l0) (hold : ∀ so, M.cget (content l0.Ls) (mT (slOf (keyAt k 0) v).m) = some so → so.deep = false ∧ so.rest = (slOf (keyAt k 0) v).rest)
    (hL:LvOK l0.Ls Ls' (cput (content l0.Ls) (mT (slOf (keyAt k 0) v).m) (slOf (keyAt k 0) v)) r) :
    WY (turnL F l0 ⟨l0.pre,Ls',r⟩) (lv+1) (pt+k.size)∧MCt (turnL F l0 ⟨l0.pre,Ls',r⟩) (cput C k v)∧EvoY F (turnL F l0 ⟨l0.pre,Ls',r⟩):=by
 obtain ⟨a,b⟩:=MCt.put1 (l1:=⟨l0.pre,Ls',l0.r⟩) h.ok hct ho rfl rfl hL.tow (slOf_ok _ v) rfl (slOf_sb _ v).symm hL.con hold
 have h0:l0.pre=[]:=by rw [ho.pre];rfl
 have hm:(⟨l0.pre,Ls',l0.r⟩:Ly)∈turnL F l0 ⟨l0.pre,Ls',l0.r⟩:=(turnL_mem ho.mem _).2 (.inl rfl)
 obtain ⟨c,d⟩:=a.reroot (C:=cput C k v) (l1:=⟨l0.pre,Ls',r⟩) hm h0 rfl rfl
 rw [turnL_twice (l0:=l0) (l1:=⟨l0.pre,Ls',l0.r⟩) rfl] at c d
 exact ⟨⟨c,h.wb.put h.ok ho.mem hL⟩,d b,EvoY.turn (l0:=l0) rfl (fun l hl e=>h.ok.uniq hl ho.mem e) hL.evo⟩
theorem WY.putU (h : WY F lv pt) (hct : MCt F C) (ho : On F k i l0) (hold : ∀ so, M.cget (content l0.Ls) (mT (slOf (keyAt k i) v).m) = some so → so.deep = false ∧ so.rest = (slOf (keyAt k i) v).rest)
    (hL:LvOK l0.Ls Ls' (cput (content l0.Ls) (mT (slOf (keyAt k i) v).m) (slOf (keyAt k i) v)) r)
    (hlp:lp∈F) (hg:M.cget (content lp.Ls) (mT sp.m)=some sp) (hd:sp.deep=true) (he:l0.pre=lp.pre++ube 8 sp.m.s) (hLp:LvOK lp.Ls Lp' (cput (content lp.Ls) (mT sp.m) { sp with link:=r }) lp.r) (hlv:leaves Lp'≤leaves lp.Ls) :
    WY (turnL (turnL F l0 ⟨l0.pre,Ls',r⟩) lp ⟨lp.pre,Lp',lp.r⟩) (lv+1) (pt+k.size)∧MCt (turnL (turnL F l0 ⟨l0.pre,Ls',r⟩) lp ⟨lp.pre,Lp',lp.r⟩) (cput C k v)∧EvoY F (turnL (turnL F l0 ⟨l0.pre,Ls',r⟩) lp ⟨lp.pre,Lp',lp.r⟩):=by
 obtain ⟨a,b⟩:=MCt.put1 (l1:=⟨l0.pre,Ls',l0.r⟩) h.ok hct ho rfl rfl hL.tow (slOf_ok _ v) rfl (slOf_sb _ v).symm hL.con hold
 have hm:(⟨l0.pre,Ls',l0.r⟩:Ly)∈turnL F l0 ⟨l0.pre,Ls',l0.r⟩:=(turnL_mem ho.mem _).2 (.inl rfl)
 have hne:l0.pre≠lp.pre:=fun e=>by
  have:=congrArg List.length (e.symm.trans he);rw [List.length_append,ube_len] at this;omega
 have hlp':lp∈turnL F l0 ⟨l0.pre,Ls',l0.r⟩:=(turnL_mem ho.mem _).2 (.inr ⟨hlp,hne.symm⟩)
 obtain ⟨c,d⟩:=relink_ok (C:=cput C k v) (lp1:=⟨lp.pre,Lp',lp.r⟩) (r:=r) a hm hlp' hg hd he rfl rfl hLp.tow hLp.con
 rw [relink_eq (lp:=lp) (lp1:=⟨lp.pre,Lp',lp.r⟩) (fun l hl e=>a.uniq hl hm e) hne rfl,turnL_twice (l0:=l0) (l1:=⟨l0.pre,Ls',l0.r⟩) rfl] at c d
 have hwb:=h.wb.put h.ok ho.mem hL
 have hlq:lp∈turnL F l0 ⟨l0.pre,Ls',r⟩:=(turnL_mem ho.mem _).2 (.inr ⟨hlp,hne.symm⟩)
 have hpn:((turnL F l0 ⟨l0.pre,Ls',r⟩).map (·.pre)).Nodup:=by rw [turnL_pre (l0:=l0) (l1:=⟨l0.pre,Ls',r⟩) rfl];exact h.ok.pre
 obtain ⟨e1,e2⟩:=put_sums (r:=lp.r) (pt:=pt) (s:={ sp with link:=r }) h.ok hlp hLp.con (h.wb.rst lp hlp)
 have hg':M.cget (content lp.Ls) (mT ({ sp with link:=r }:Sl).m)=some sp:=hg
 rw [hg'] at e1
 have e3:ptS ({ sp with link:=r }:Sl)=ptS sp:=rfl
 have hrl:(bl sp.rest).length≤pt:=h.wb.rst lp hlp _ ((h.ok.cget hlp).1 hg)
 refine ⟨⟨c,hwb.turn hpn hlq rfl hLp.slim hLp.thk hLp.top (fun x hx=>?_) (by show leaves Lp'+_≤_;omega) (Nat.le_refl _) (by simp only at e1;omega)⟩,d b,?_⟩
 ·have:=e2 x hx
  have h9:(bl ({ sp with link:=r }:Sl).rest).length=(bl sp.rest).length:=rfl;omega
 ·refine (EvoY.turn (l0:=l0) (l1:=⟨l0.pre,Ls',r⟩) rfl (fun l hl e=>h.ok.uniq hl ho.mem e) hL.evo).trans (EvoY.turn (l0:=lp) rfl (fun l hl e=>?_) hLp.evo)
  rcases (turnL_mem ho.mem l).1 hl with rfl | ⟨h1,_⟩
  ·exact absurd e hne
  ·exact h.ok.uniq h1 hlp e
theorem WY.deepen {hs : List Hd} {h0 : Hd} (h : WY F lv pt) (hct : MCt F C) (ho : On F k i l0) (hg : M.cget (content l0.Ls) (mT (mkAt k i)) = some so) (hd : so.deep = false) (hne : bl so.rest ≠ keyAt k (i + 1)) (hl : hs.length = alk (bl so.rest) (keyAt k (i + 1)))
    (hL:LvOK l0.Ls Ls' (cput (content l0.Ls) (mT so.m) ⟨so.m,s0,s0,true,h0⟩) l0.r) (hlv:leaves Ls'≤leaves l0.Ls) :
    WY (turnL F l0 ⟨l0.pre,Ls',l0.r⟩++bothN (l0.pre++ube 8 so.m.s) (bl so.rest) (keyAt k (i+1)) so.val v (h0::hs)) (lv+(hs.length+1)) (pt+k.size) ∧
     MCt (turnL F l0 ⟨l0.pre,Ls',l0.r⟩++bothN (l0.pre++ube 8 so.m.s) (bl so.rest) (keyAt k (i+1)) so.val v (h0::hs)) (cput C k v) ∧
     EvoY F (turnL F l0 ⟨l0.pre,Ls',l0.r⟩++bothN (l0.pre++ube 8 so.m.s) (bl so.rest) (keyAt k (i+1)) so.val v (h0::hs)):=by
 obtain ⟨a,b⟩:=M.deepen (l1:=⟨l0.pre,Ls',l0.r⟩) (v:=v) h.ok hct ho hg hd hne hl rfl rfl hL.tow hL.con
 obtain ⟨c1,c2,c3,c4,c5,c6⟩:=clash h.ok ho hg hd hne
 obtain ⟨j1,j2⟩:=bothN_is hs h0 (l0.pre++ube 8 so.m.s) (bl so.rest) (keyAt k (i+1)) so.val v hl hne c3 c4
 have jl:=bothN_len (h0::hs) (l0.pre++ube 8 so.m.s) (bl so.rest) (keyAt k (i+1)) so.val v
 have hp:=both_pot (v:=so.val) (w:=v) c3 c4 hl
 have hal:=alk_lt _ _ _ (Nat.le_refl _) c3 c4
 rw [← hl] at hal
 have hkl:=keyAt_len k (i+1)
 have hk0:=List.length_pos_iff.2 c4
 have hpl:l0.pre.length≤8*i:=by rw [ho.pre,List.length_take];omega
 obtain ⟨e1,e2⟩:=put_sums (r:=l0.r) (pt:=pt) (s:=⟨so.m,s0,s0,true,h0⟩) h.ok ho.mem hL.con (h.wb.rst l0 ho.mem)
 have hg':M.cget (content l0.Ls) (mT so.m)=some so:=by rw [c1];exact hg
 simp only [hg'] at e1
 have e3:ptS (⟨so.m,s0,s0,true,h0⟩:Sl)=0:=rfl
 have e4:ptS so=(bl so.rest).length+8:=by
  unfold ptS;rw [if_neg (by have:=List.length_pos_iff.2 c3;omega)]
 have hrl:(bl so.rest).length≤pt:=h.wb.rst l0 ho.mem _ ((h.ok.cget ho.mem).1 hg)
 have hw1:WB (turnL F l0 ⟨l0.pre,Ls',l0.r⟩) lv pt:=h.wb.turn h.ok.pre ho.mem rfl hL.slim hL.thk hL.top (fun x hx=>by
  have:=e2 x hx;have h9:(bl (⟨so.m,s0,s0,true,h0⟩:Sl).rest).length=0:=rfl
  omega) (by show leaves Ls'+_≤_;omega) (Nat.le_refl _) (by omega)
 have s1:=sum_turn (l1:=⟨l0.pre,Ls',l0.r⟩) ptL h.ok.pre ho.mem
 have s2:=sum_self ptL h.ok.pre ho.mem
 have hpt:=h.wb.pot
 unfold M.pot at hpt
 have hne0:turnL F l0 ⟨l0.pre,Ls',l0.r⟩≠[]:=fun e=>by
  have:=(turnL_mem (l1:=⟨l0.pre,Ls',l0.r⟩) ho.mem _).2 (.inl rfl);rw [e] at this;simp at this
 have hw2:=hw1.app (N:=bothN (l0.pre++ube 8 so.m.s) (bl so.rest) (keyAt k (i+1)) so.val v (h0::hs)) (pt':=pt+k.size) hne0 (fun l hl=>(j1 l hl).2.1) (fun l hl=>(j1 l hl).1) (fun l hl=>?_) (fun l hl x hx=>?_) (by omega) ?_
 ·refine ⟨⟨a,?_⟩,b,(EvoY.turn (l0:=l0) (l1:=⟨l0.pre,Ls',l0.r⟩) rfl (fun l hl e=>h.ok.uniq hl ho.mem e) hL.evo).trans fun l hl=>⟨l,List.mem_append_left _ hl,rfl,Evo.refl _⟩⟩
  rw [jl] at hw2;exact hw2
 ·have:=(j1 l hl).2.2.1
  rw [List.length_append,ube_len] at this;omega
 ·have:=(j1 l hl).2.2.2 x hx
  omega
 ·rw [turnL_len,jl,s1,j2,List.length_cons]
  omega
theorem WY.del (h : WY F lv pt) (hct : MCt F C) (ho : On F k i l0) (hg : M.cget (content l0.Ls) (mT (mkAt k i)) = some s) (hd : s.deep = false) (hsk : keyAt k i = sb s)
    (hL:LvOK l0.Ls Ls' (cdel (content l0.Ls) (mT (mkAt k i))) l0.r) (hlv:leaves Ls'≤leaves l0.Ls) :
    WY (turnL F l0 ⟨l0.pre,Ls',l0.r⟩) lv pt∧MCt (turnL F l0 ⟨l0.pre,Ls',l0.r⟩) (cdel C k)∧EvoY F (turnL F l0 ⟨l0.pre,Ls',l0.r⟩):=by
 obtain ⟨a,b⟩:=MCt.del1 (l1:=⟨l0.pre,Ls',l0.r⟩) h.ok hct ho rfl rfl hL.tow hg hd hsk hL.con
 refine ⟨⟨a,h.wb.turn h.ok.pre ho.mem rfl hL.slim hL.thk hL.top (fun x hx=>?_) (by show leaves Ls'+_≤_;omega) (Nat.le_refl _) ?_⟩,b,EvoY.turn (l0:=l0) rfl (fun l hl e=>h.ok.uniq hl ho.mem e) hL.evo⟩
 ·have hx':x∈content Ls':=hx
  rw [hL.con] at hx';exact h.wb.rst l0 ho.mem x (List.mem_filter.1 hx').1
 ·have:=csum_del (fun x:Str×Sl=>ptS x.2) (C:=content l0.Ls) (k:=mT (mkAt k i))
  have e:ptL ⟨l0.pre,Ls',l0.r⟩=((cdel (content l0.Ls) (mT (mkAt k i))).map fun x=>ptS x.2).sum:=by unfold ptL;rw [hL.con]
  have e2:ptL l0=((content l0.Ls).map fun x=>ptS x.2).sum:=rfl;omega
end
open Go.RowKit
structure MF (w0 w:World) (T:TS) (G:List (Hd×BN Sl)):Prop where
 am:AM w0 w T
 fl:(T.F.map fun x=>(x.1,x.2.bn)).Perm G
 kd:∀ x,x∈T.F→(∃ f,x.2.k=.leaf f)∨∃ b,x.2.k=.inn b
structure NewND (w:World) (base:Nat) (x:ND):Prop where
 is:(∃ f,x.k=.leaf f∧LFOK f∧x.cs=.bool true::(lfc f++zic)∧x.B=[]) ∨
  (∃ b ic,x.k=.inn b∧x.cs=.bool false::(zlc++ic)∧b.leaf=false∧(∃ lo,NodeOK lo b)∧b.keys.length≤5∧InC w x.B ic (down b))
 ge:∀ q,q∈x.B→base≤q
section
variable {w0 w w1 w':World} {T T':TS} {G G':List (Hd×BN Sl)} {h:Hd} {n:BN Sl} {x:ND} {S:List Nat} {base:Nat} {ρ:Nat→Nat}
theorem NewND.upd (hx:NewND w base x) (hu:Upd S w w') (hS:∀ q,q∈S→q < base):NewND w' base x:=by
 refine ⟨?_,hx.ge⟩
 rcases hx.is with h1 | ⟨b,ic,a1,a2,a3,a4,a5,a6⟩
 ·exact .inl h1
 ·exact .inr ⟨b,ic,a1,a2,a3,a4,a5,a6.upd hu fun q hq hm=>by have:=hS q hm;have:=hx.ge q hq;omega⟩
theorem NewND.lt (hx:NewND w base x):∀ q,q∈x.B→q < w.heap.size:=by
 rcases hx.is with ⟨f,_,_,_,e⟩ | ⟨b,ic,a1,a2,a3,a4,a5,a6⟩
 ·rw [e];intro q hq;cases hq
 ·exact a6.lt
theorem NewND.kd (hx:NewND w base x):(∃ f,x.k=.leaf f)∨∃ b,x.k=.inn b:=by
 rcases hx.is with ⟨f,e,_⟩ | ⟨b,ic,e,_⟩
 ·exact .inl ⟨f,e⟩
 ·exact .inr ⟨b,e⟩
theorem NewND.nok (hx:NewND w base x) (hr:∀ q,q∈x.B→ρ q=5):NOK w ρ x:=by
 refine ⟨?_,hr,hx.lt,fun f hf=>?_,fun b hb=>?_⟩
 ·rcases hx.is with ⟨f,_,a,e,_⟩ | ⟨b,ic,_,e,_,_,_,a⟩
  ·rw [e,List.length_cons,List.length_append,lfc_len a.S];rfl
  ·rw [e,List.length_cons,List.length_append,zlc_len,a.len]
 ·rcases hx.is with ⟨f',e1,a,e,_⟩ | ⟨b,ic,e1,_⟩
  ·rw [e1] at hf
   injection hf with hf;subst hf;exact ⟨a,e⟩
  ·rw [e1] at hf;cases hf
 ·rcases hx.is with ⟨f',e1,_⟩ | ⟨b',ic,e1,a2,a3,a4,a5,a6⟩
  ·rw [e1] at hb;cases hb
  ·rw [e1] at hb
   injection hb with hb;subst hb;exact ⟨a3,a4,a5,ic,a2,a6⟩
theorem NewND.leaf {f:LF} (hf:LFOK f):NewND w base ⟨.leaf f,.bool true::(lfc f++zic),[]⟩:=⟨.inl ⟨f,rfl,hf,rfl,rfl⟩,fun q hq=>by cases hq⟩
theorem NewND.inn {b:BN Sl} {ic:List Value} {B:List Nat} {lo:Str} (hl:b.leaf=false) (ho:NodeOK lo b) (h5:b.keys.length≤5) (hI:InC w B ic (down b)) (hB:∀ q,q∈B→base≤q):NewND w base ⟨.inn b,.bool false::(zlc++ic),B⟩ :=
 ⟨.inr ⟨b,ic,rfl,rfl,hl,⟨lo,ho⟩,h5,hI⟩,hB⟩
theorem MF.perm (hM:MF w0 w T G) (hp:G.Perm G'):MF w0 w T G':=⟨hM.am,hM.fl.trans hp,hM.kd⟩
theorem MF.mem (hM:MF w0 w T G) {z:Hd×BN Sl}:z∈G↔∃ x,x∈T.F∧(x.1,x.2.bn)=z:=by
 rw [← hM.fl.mem_iff,List.mem_map]
theorem MF.nd (hM:MF w0 w T G):(G.map (·.1)).Nodup:=by
 have:=(hM.fl.map (·.1)).nodup_iff.1
 refine this ?_
 rw [List.map_map]
 exact hM.am.ndf
structure EntAt (T:TS) (h:Hd) (q:Nat):Prop where
 ex:∃ e,e∈T.d.A.L∧(e.slot:Int)=h.1∧e.gen=h.2∧e.blk=q
theorem EntAt.ev {g:Hd} {b:Nat} (h:EntAt T g b) (k:TEv w w' T T'):EntAt T' g b:=by
 obtain ⟨y,y1,y2,y3,y4⟩:=h.ex
 obtain ⟨z,z1,z2,z3,z4⟩:=k.et y y1
 exact ⟨z,z1,by rw [z2];exact y2,z3.trans y3,z4.trans y4⟩
theorem AM.at (hA:AM w0 w T) {q:Nat} (hx:(h,x)∈T.F) (hq:EntAt T h q):w.heap[q]?=some (.cells (.int .u64 h.2::x.cs).toArray 192):=by
 obtain ⟨y,y1,y2,y3,rfl⟩:=hq.ex
 obtain ⟨e,e1,e2,e3,e4⟩:=hA.ent _ hx
 have:=slot_uniq hA.slots y1 e1 (by have:(y.slot:Int)=e.slot:=y2.trans e2.symm;omega)
 subst this
 have hc:=hA.bw.cellsOf hA.hd hA.tc e1
 rw [e4,e3] at hc
 exact hc
theorem AM.getE (hA:AM w0 w T) (hx:(h,x)∈T.F):∃ q,EntAt T h q∧∀ W,Below w.heap.size w W→Calls Tryz.prog 62 #[.pointer (some ⟨T.d.A.a,0,none⟩),hV h] W fun y W'=>y=.returned (.tuple #[.pointer (some ⟨q,1,none⟩),.bool true])∧Below W.heap.size W W':=by
 obtain ⟨e,e1,e2,e3,_,e5⟩:=hA.get hx
 exact ⟨e.blk,⟨e,e1,e2,e3,rfl⟩,e5⟩
theorem EntAt.lt (hA:AM w0 w T) {q:Nat} (hq:EntAt T h q):q < w.heap.size∧T.ρ q=10+3*T.i:=by
 obtain ⟨y,y1,_,_,rfl⟩:=hq.ex
 obtain ⟨z,hz,z1,z2⟩:=hA.node y1
 obtain ⟨z1',z2'⟩:=z
 have:=hA.at hz ⟨y,y1,z1,z2,rfl⟩
 exact ⟨heap_lt this,(hA.bw.ars.ar T.i T.d hA.hd).th y y1 |>.1⟩
theorem fset_bn {F:NF} {m:ND} (hn:(F.map (·.1)).Nodup) (hm:(h,m)∈F) (e:m.bn=n) (hp:(F.map fun x=>(x.1,x.2.bn)).Perm ((h,n)::G)):((fset F h x).map fun y=>(y.1,y.2.bn)).Perm ((h,x.bn)::G):=by
 obtain ⟨A,B,rfl⟩:=List.append_of_mem hm
 have h1:∀ L:NF,(∀ y,y∈L→y.1≠h)→fset L h x=L:=fun L hL=>by
  unfold fset;rw [List.map_congr_left (g:=id) (fun y hy=>by rw [if_neg (hL y hy)];rfl),List.map_id]
 rw [List.map_append,List.map_cons,List.nodup_append] at hn
 obtain ⟨hn1,hn2,hn3⟩:=hn
 rw [List.nodup_cons] at hn2
 have hA:fset A h x=A:=h1 A fun y hy e=>hn3 y.1 (List.mem_map_of_mem hy) h (by simp) e
 have hB:fset B h x=B:=h1 B fun y hy e=>hn2.1 (List.mem_map.2 ⟨y,hy,e⟩)
 have hs:fset (A++(h,m)::B) h x=A++(h,x)::B:=by
  have:fset (A++(h,m)::B) h x=fset A h x++fset ((h,m)::B) h x:=List.map_append;rw [this,hA]
  show A++((if h=h then (h,x) else (h,m))::fset B h x)=_
  rw [if_pos rfl,hB]
 rw [hs]
 rw [List.map_append,List.map_cons] at hp ⊢
 have hp2:=(List.perm_middle.symm.trans hp)
 simp only [e] at hp2
 exact List.perm_middle.trans (List.Perm.cons _ (List.Perm.cons_inv hp2))
structure MS (w0 w:World) (T:TS) (W:World) (T':TS) (L:List (Nat×Obj)):Prop where
 am:AM w0 W T'
 ev:TEv w W T T'
 own:∀ x,x∈L→W.heap[x.1]?=some x.2∧w.heap.size≤x.1∧T'.ρ x.1=0
 nd:(L.map (·.1)).Nodup
 le:w0.heap.size≤w.heap.size
variable {W W':World} {T1 T2:TS} {L:List (Nat×Obj)} {o o':Obj} {q:Nat}
theorem MS.start (hA:AM w0 w T):MS w0 w T w T []:=⟨hA,TEv.refl hA,by simp,List.nodup_nil,hA.bw.ro.bel.size⟩
theorem MS.call (hS:MS w0 w T W T1 L) (hA:AM w0 W' T2) (hE:TEv W W' T1 T2):MS w0 w T W' T2 L :=
 ⟨hA,hS.ev.trans hE,fun x hx=>by
  obtain ⟨a,b,c⟩:=hS.own x hx
  exact ⟨hE.ru.heap a (by rw [c];simp;omega),b,by rw [hE.ru.role _ (heap_lt a)];exact c⟩,hS.nd,hS.le⟩
theorem MS.below (hS:MS w0 w T W T1 L) (hb:Below W.heap.size W W'):MS w0 w T W' T1 L:=hS.call (hS.am.below hb) (TEv.below hS.am hb)
theorem MS.drew (hS:MS w0 w T W T1 L):MS w0 w T W.drew T1 L:=hS.below (Below.refl _ _).drew
theorem MS.box (hS:MS w0 w T W T1 L) (o:Obj):MS w0 w T (W.alloc o) T1 ((W.heap.size,o)::L):=by
 have h1:=hS.below ((Below.refl _ _).alloc (Nat.le_refl _) o)
 refine ⟨h1.am,h1.ev,fun x hx=>?_,?_,hS.le⟩
 ·rcases List.mem_cons.1 hx with rfl | hx
  ·exact ⟨heap_alloc_new _ _,hS.ev.ru.size,hS.am.bw.ro.far _ (Nat.le_refl _)⟩
  ·exact h1.own x hx
 ·rw [List.map_cons,List.nodup_cons]
  refine ⟨fun hm=>?_,hS.nd⟩;obtain ⟨y,hy,e⟩:=List.mem_map.1 hm;have:=heap_lt (hS.own y hy).1;simp only at e;omega
theorem MS.perm {L':List (Nat×Obj)} (hS:MS w0 w T W T1 L) (hp:L.Perm L'):MS w0 w T W T1 L':=⟨hS.am,hS.ev,fun x hx=>hS.own x (hp.mem_iff.2 hx),((hp.map _).nodup_iff).1 hS.nd,hS.le⟩
theorem MS.set (hS:MS w0 w T W T1 ((q,o)::L)) (hu:Upd [q] W W') (hb:W'.heap[q]?=some o'):MS w0 w T W' T1 ((q,o')::L):=by
 obtain ⟨a,b,c⟩:=hS.own (q,o) (List.mem_cons_self ..)
 refine ⟨hS.am.own0 hu fun k hk=>?_,hS.ev.own0 hu fun k hk=>?_,fun x hx=>?_,hS.nd,hS.le⟩
 ·rw [List.mem_singleton.1 hk];exact ⟨Nat.le_trans hS.le b,c⟩
 ·rw [List.mem_singleton.1 hk];exact b
 ·rcases List.mem_cons.1 hx with rfl | hx
  ·exact ⟨hb,b,c⟩
  ·obtain ⟨a2,b2,c2⟩:=hS.own x (List.mem_cons_of_mem _ hx)
   refine ⟨hu.heap a2 (fun hm=>?_),b2,c2⟩;have hnd:=hS.nd;rw [List.map_cons,List.nodup_cons] at hnd;exact hnd.1 (List.mem_map.2 ⟨x,hx,List.mem_singleton.1 hm⟩)
theorem MS.get (hS:MS w0 w T W T1 L) (hx:(q,o)∈L):W.heap[q]?=some o:=(hS.own _ hx).1
theorem MS.tree (hS:MS w0 w T W T1 L):W.cell? ⟨T.t,1,none⟩=some (.pointer (some ⟨T.d.A.a,0,none⟩)):=by
 have:=hS.am.cells.2.1
 rw [hS.ev.t,hS.ev.a] at this
 exact this
theorem MS.pool (hS:MS w0 w T W T1 L):W.cell? ⟨T.t,0,none⟩=some (.pointer (some ⟨T.P.1,0,none⟩)):=by
 have:=hS.am.cells.1
 rw [hS.ev.t,hS.ev.P] at this
 exact this
theorem MS.marks (hS : MS w0 w T W T1 L) (hb : Below W.heap.size W W') (B : List Nat) (hB : ∀ b, b ∈ B → W.heap.size ≤ b ∧ b < W'.heap.size) :
    MS w0 w T W' { T1 with ρ:=mkN T1.ρ W.heap.size B 5 } L∧∀ b,b∈B→mkN T1.ρ W.heap.size B 5 b=5:=by
 obtain ⟨a,b⟩:=hS.am.marks hb B fun q hq=>(hB q hq).2
 exact ⟨hS.call a b,fun q hq=>mkN_new (hB q hq).1 hq⟩
theorem MS.store {z : ND} (hS : MS w0 w T W T1 L) (hz : (h, z) ∈ T1.F) (hq : EntAt T1 h q) (hx : NewND W' base x) (hr : ∀ b, b ∈ x.B → T1.ρ b = 5) (hu : Upd [q] W W') (hb : W'.heap[q]? = some (.cells (.int .u64 h.2 :: x.cs).toArray 192)) :
    ∃ T2,MS w0 w T W' T2 L∧TEv W W' T1 T2∧T2.F=fset T1.F h x∧T2.n=T1.n∧T2.ly=T1.ly∧T2.r=T1.r∧T2.free=T1.free:=by
 obtain ⟨e,e1,e2,e3,rfl⟩:=hq.ex
 obtain ⟨T2,a1,a2,a3,a4,a5,a6,a7⟩:=hS.am.store hz e1 e2 e3 x (hx.nok hr) hu (by rw [e3];exact hb)
 exact ⟨T2,hS.call a1 a2,a2,a3,a4,a5,a6,a7⟩
theorem MS.alloc (hS : MS w0 w T W T1 L) (n : ND) (hk : NOK W T1.ρ n) (hfr : true ∈ T1.free) :
    ∃ g:Hd,(∀ z,z∈T1.F→z.1≠g)∧Calls Tryz.prog 90 #[.pointer (some ⟨T.d.A.a,0,none⟩),.agg n.cs.toArray] W fun y W' =>
     y=.returned (.tuple #[hV g,.int .i64 0])∧∃ T2,MS w0 w T W' T2 L∧TEv W W' T1 T2∧T2.F=T1.F++[(g,n)]∧T2.n=T1.n∧T2.ly=T1.ly∧T2.r=T1.r∧T2.free.count true+1=T1.free.count true:=by
 obtain ⟨g,hg,hC⟩:=hS.am.alloc n hk hfr
 rw [hS.ev.a] at hC
 refine ⟨g,hg,hC.mono ?_⟩
 rintro y W' ⟨rfl,T2,a1,a2,a3⟩
 exact ⟨rfl,T2,hS.call a1 a2,a2,a3⟩
theorem MS.getE (hS:MS w0 w T W T1 L) (hx:(h,x)∈T1.F):∃ q,EntAt T1 h q∧∀ W2,Below W.heap.size W W2→Calls Tryz.prog 62 #[.pointer (some ⟨T.d.A.a,0,none⟩),hV h] W2 fun y W'=>y=.returned (.tuple #[.pointer (some ⟨q,1,none⟩),.bool true])∧Below W2.heap.size W2 W':=by
 obtain ⟨q,a,b⟩:=hS.am.getE hx
 rw [hS.ev.a] at b
 exact ⟨q,a,b⟩
theorem mn_set_leaf {W:World} {q:Nat} {g u:Value} {A B vs:List Value} {t:TypeId} (h:W.heap[q]?=some (.cells (g::u::(A++B)).toArray t)) (hl:vs.length=A.length):(W.setCells q 2 vs).heap[q]?=some (.cells (g::u::(vs++B)).toArray t):=by
 rw [hb_set h vs (by simp;omega)]
 congr 3
 have e:g::u::(A++B)=(g::u::A)++B:=rfl
 rw [hl,e,List.drop_append,List.drop_of_length_le (by simp;omega),show 2+A.length - (g::u::A).length=0 by simp;omega]
 simp
theorem mn_set_inn {W:World} {q:Nat} {g u:Value} {A B vs:List Value} {t:TypeId} (h:W.heap[q]?=some (.cells (g::u::(A++B)).toArray t)) (hA:A.length=111) (hl:vs.length=B.length):(W.setCells q 113 vs).heap[q]?=some (.cells (g::u::(A++vs)).toArray t):=by
 rw [hb_set h vs (by simp;omega)]
 congr 3
 have e:g::u::(A++B)=(g::u::A)++B:=rfl
 rw [e,List.take_left' (by simp [hA]),List.drop_of_length_le (by simp;omega)]
 simp
theorem mn_there {W:World} {q o n:Nat} {c:List Value} {t:TypeId} (h:W.heap[q]?=some (.cells c.toArray t)) (hn:o+n≤c.length):W.there q o n:=hb_there h hn
end
end Go.Proofs.YtbdealmkmpnpoaaGreat.M
