import Derived.Laws.MakeOwn
import Derived.Lib.SliceRun
import Derived.Deep.RegionLaw
import Derived.Test.YtbdealmkmpnpoaaGreatQ01
import Derived.Test.YtbdealmkmpnpoaaGreatQ02
import Derived.Test.YtbdealmkmpnpoaaGreatQ03
import Derived.Test.YtbdealmkmpnpoaaGreatQ04
import Derived.Test.YtbdealmkmpnpoaaGreatQ05
import Derived.Test.YtbdealmkmpnpoaaGreatQ06
import Derived.Test.YtbdealmkmpnpoaaGreatQ07
import Derived.Test.YtbdealmkmpnpoaaGreatQ08
import Derived.Test.YtbdealmkmpnpoaaGreatQ09
import Derived.Test.YtbdealmkmpnpoaaGreatQ10
import Derived.Test.YtbdealmkmpnpoaaGreatQ11
import Derived.Test.YtbdealmkmpnpoaaGreatQ12
set_option linter.all false
namespace Go.Proofs.YtbdealmkmpnpoaaGreat.M
open Go.RowKit
theorem Seen.next {w W:World} {x:ND} {q:Nat} {g:Value} {t:TypeId} (hs:Seen w x) (hc:w.heap[q]?=some (.cells (g::x.cs).toArray t)) (hW:Below w.heap.size w W):Calls Tryz.prog 95 #[.pointer (some ⟨q,1,none⟩)] W fun e w'=>e=.returned (hV x.bn.next)∧Below W.heap.size W w':=by
 have h1:=rng1 (Below.heap' hW hc)
 rcases (hs.below hW).cases with ⟨f,s1,s2,s3,s4⟩ | ⟨s1,s2,s3,ic,B,s4,s5⟩
 ·rw [s4] at h1
  rw [s1];exact nd_next_leaf (LfAt.of h1) s3
 ·rw [s4] at h1
  exact nd_next_inn (InAt.of h1) s5
theorem Seen.low {w:World} {x:ND} {q:Nat} {g:Value} {t:TypeId} (hs:Seen w x) (hc:w.heap[q]?=some (.cells (g::x.cs).toArray t)):w.cell? ⟨q,1,none⟩=some (.bool x.bn.leaf):=by
 rcases hs.cases with ⟨f,s1,s2,s3,s4⟩ | ⟨s1,s2,s3,ic,B,s4,s5⟩
 ·rw [s4] at hc
  rw [s2];exact low_cell hc
 ·rw [s4] at hc
  rw [s1];exact low_cell hc
section
variable {β:Type}
theorem seg_at : ∀ {R : Lev β} {lo : Str} {i : Nat} {x : Hd × BN β}, Seg lo R (0, 0) none → R[i]? = some x →
    NodeOK (endOf lo (R.take i)) x.2∧x.2.bnd=decide (i+1 < R.length)∧(∀ y,R[i+1]?=some y→x.2.next=y.1)∧(i+1=R.length→x.2.next=(0,0))∧(i+1 < R.length→endOf lo (R.take (i+1))=x.2.high)
 | [],_,_,_,_,hx=>by simp at hx
 | (h,n)::R,lo,i,x,⟨a,b,c⟩,hx=>by
  cases i with
  | zero =>
   injection hx with hx;subst hx
   cases hb:n.bnd
   ·rw [hb] at c
    simp only [Bool.false_eq_true,if_false] at c;obtain ⟨e,_⟩:=c;subst e;exact ⟨a,by simp [hb],fun y hy=>by simp at hy,fun _=>b,fun h9=>by simp at h9⟩
   ·rw [hb,if_pos rfl] at c
    cases R with
    | nil=>simp [Seg] at c
    | cons y R=>exact ⟨a,by simp [hb],fun z hz=>by simp at hz;subst hz;exact b,fun h9=>by simp at h9,fun _=>rfl⟩
  | succ i =>
   cases hb:n.bnd
   ·rw [hb] at c
    simp only [Bool.false_eq_true,if_false] at c;obtain ⟨e,_⟩:=c;subst e;simp at hx
   ·rw [hb,if_pos rfl] at c
    obtain ⟨d1,d2,d3,d4,d5⟩:=seg_at (i:=i) c hx;refine ⟨d1,by rw [d2];simp,fun y hy=>d3 y hy,fun h9=>d4 (by simpa using h9),fun h9=>d5 (by simpa using h9)⟩
end
theorem bnd_last {i N:Nat} (h:i < N):decide (i+1 < N) = !decide (i+1=N):=by
 by_cases h1:i+1=N
 ·simp [h1]
 ·have:i+1 < N:=by omega
  simp [h1,this]
theorem toList_ne {a b:Str} (h:a≠b):(a.toList == b.toList)=false:=by
 cases h1:a.toList == b.toList
 ·rfl
 ·exact absurd (toList_inj (by simpa using h1)) h
theorem int_eq_nat (a b:Nat):((a:Int) == (b:Int))=decide (a=b):=by
 by_cases h:a=b
 ·simp [h]
 ·have:¬ (a:Int)=(b:Int):=by omega
  simp [h,this]
set_option maxRecDepth 100000 in
set_option maxHeartbeats 3000000 in
theorem MTr.row {w0 w : World} {T : TS} {Y : List Ly} {C : Cont Str} {l : Ly} {j : Nat} {R : Lev Sl} (h : MTr w0 w T Y C) (hl : l ∈ Y) (hR : l.Ls[j]? = some R) {base : Nat} {a : Option Addr} {c : Nat} (hrow : Row base 71 2 hcel w (.slice a R.length c) (R.map (·.1))) :
    Calls Tryz.prog 105 #[.pointer (some ⟨T.t,0,none⟩),.slice a R.length c] w fun e w'=>e=.returned (.bool true)∧Below w.heap.size w w':=by
 have c1:=h.am.cells.2.1
 have htw:=h.sane.ok.tow l hl
 have hok:=htw.ok j R hR
 have hslim:=h.sane.slim l hl j R hR
 have hRn:R.length≤20000:=by
  obtain ⟨X,Z,e1,_⟩:=lev_set (S':=[]) hR;have:=h.sane.nod l hl;unfold nodes at this;rw [e1] at this;simp at this;omega
 have hEn:=qh fun (x:Hd×BN Sl) (hx:x∈l.Ls.flatten)=>h.node (x:=x) (List.mem_flatMap.2 ⟨l,hl,hx⟩)
 have hseg:=qh fun (i:Nat) (x:Hd×BN Sl) (hx:R[i]?=some x)=>seg_at hok.seg hx
 have hlfs:∀ x,x∈R→x.2.leaf=decide (j=0):=hok.lf
 have hcap:cap (if decide (j=0)=true then 0 else 1)=cap j:=by
  by_cases h0:j=0
  ·simp [h0]
  ·simp [h0,cap]
 have hmf:∀ x,x∈R→x∈l.Ls.flatten:=fun x hx=>mem_flat hR hx
 obtain ⟨A,hA⟩:∃ a,a=T.d.A.a:=⟨_,rfl⟩
 rw [← hA] at c1 hEn
 obtain ⟨t,ht⟩:∃ t,t=T.t:=⟨_,rfl⟩
 rw [← ht] at c1 ⊢
 obtain ⟨lf,hlf⟩:∃ b,b=decide (j=0):=⟨_,rfl⟩
 rw [← hlf] at hlfs hcap
 have htl:=block_lt_of_cell c1
 replace hA:=qh hA
 replace ht:=qh ht
 replace hlf:=qh hlf
 replace hcap:=qh hcap
 replace hrow:=qh hrow
 replace hslim:=qh hslim
 replace hlfs:=qh hlfs
 replace hmf:=qh hmf
 obtain ⟨N,hN⟩:∃ N,N=R.length:=⟨_,rfl⟩
 rw [← hN] at hrow hRn ⊢
 replace hN:=qh hN
 clear h hl hR htw hok
 unfold hV at hEn
 go_enter Tryz.func105,Tryz.ntmps105
 go_wp2_with fail
 go_loopg [19,5] (N+1) (fun gk v19 v5 wr=>∃ (i:Nat),gk=N+1 - i∧i≤N∧v19=.int .i64 ((i:Nat):Int)∧(∃ s,v5=.string s∧(i < N→s=endOf s0 (R.take i)))∧Below w.heap.size w wr)
 case atStart=>exact ⟨0,rfl,Nat.zero_le _,rfl,⟨_,rfl,fun _=>rfl⟩,Below.refl _ _⟩
 case round =>
  obtain ⟨i,rfl,hiN,rfl,⟨low,rfl,hlow⟩,hB⟩:=hrel;by_cases hlt:i < N
  ·skip
   obtain ⟨x,hx⟩:∃ x,R[i]?=some x:=⟨_,List.getElem?_eq_getElem (by rw [← hN.out];exact hlt)⟩;obtain ⟨x0,hx0⟩:∃ x,R[0]?=some x:=⟨_,List.getElem?_eq_getElem (by rw [← hN.out];omega)⟩;have hxm:=List.mem_of_getElem? hx;have hxm0:=List.mem_of_getElem? hx0;obtain ⟨d1,d2,d3,d4,d5⟩:=hseg.out i x hx;rw [← hN.out] at d2 d4 d5;obtain ⟨e,nd,_,hbn,_,_,_,hc,hsn,hG⟩:=hEn.out x (hmf.out x hxm);obtain ⟨e9,nd0,_,hbn0,_,_,_,hc0,hsn0,hG0⟩:=hEn.out x0 (hmf.out x0 hxm0);obtain ⟨q,hq⟩:∃ q,q=e.blk:=⟨_,rfl⟩;obtain ⟨q0,hq0⟩:∃ q,q=e9.blk:=⟨_,rfl⟩;rw [← hq] at hc hG;rw [← hq0] at hc0 hG0;have hlwW:Hid (∀ W,Below w.heap.size w W→W.cell? ⟨q,1,none⟩=some (.bool lf)∧W.cell? ⟨q0,1,none⟩=some (.bool lf)):=qh fun W hW=>⟨by have:=hsn.low hc;rw [hbn,hlfs.out x hxm] at this;exact keep hW this,by have:=hsn0.low hc0;rw [hbn0,hlfs.out x0 hxm0] at this;exact keep hW this⟩
   have hlw:wr.cell? ⟨q,1,none⟩=some (.bool lf):=by have:=hsn.low hc;rw [hbn,hlfs.out x hxm] at this;exact keep hB this
   have hlw0:wr.cell? ⟨q0,1,none⟩=some (.bool lf):=by have:=hsn0.low hc0;rw [hbn0,hlfs.out x0 hxm0] at this;exact keep hB this
   have hRi:=qh fun W hW=>hsn.right hc (by rw [hbn,hlfs.out x hxm,hcap.out];exact hslim.out x hxm) (W:=W) hW
   have hHi:=qh fun W hW=>hsn.high hc (W:=W) hW
   have hLe:=qh fun W hW=>hsn.least hc (W:=W) hW
   have hNx:=qh fun W hW=>hsn.next hc (W:=W) hW
   rw [hbn] at hHi hLe hNx;unfold hV at hNx
   have hcel:Hid (∀ (W:World) (k:Nat) (y:Hd×BN Sl),Below w.heap.size w W→R[k]?=some y→∃ pb,a=some ⟨pb,0,none⟩∧W.cell? ⟨pb,k*2,none⟩=some (.int .i64 y.1.1)∧W.cell? ⟨pb,k*2+1,none⟩=some (.int .u64 y.1.2)∧pb < W.heap.size∧N≤c):=qh fun W k y hW hy=>by
    obtain ⟨b',c',ev,_,_,hb2,h5,_,_,hat⟩:=hrow.out.at (i:=k) (x:=y.1) (by rw [List.getElem?_map,hy];rfl);injection ev with ev _ ev2;subst ev ev2;exact ⟨b',rfl,keep hW (hat 0 _ rfl),keep hW (hat 1 _ rfl),Nat.lt_of_lt_of_le hb2 hW.size,by rw [List.length_map] at h5;rw [hN.out];exact h5⟩
   obtain ⟨pa,ha,_,_,_,hNc⟩:=hcel.out w 0 x0 (Below.refl _ _) hx0;subst ha
   have hcel2:Hid (∀ (W:World) (k:Nat) (y:Hd×BN Sl),Below w.heap.size w W→R[k]?=some y→W.cell? ⟨pa,k*2,none⟩=some (.int .i64 y.1.1)∧W.cell? ⟨pa,k*2+1,none⟩=some (.int .u64 y.1.2)∧pa < W.heap.size):=qh fun W k y hW hy=>by
    obtain ⟨pb,e1,e2,e3,e4,_⟩:=hcel.out W k y hW hy;injection e1 with e1;injection e1 with e1;subst e1;exact ⟨e2,e3,e4⟩
   replace hlow:=hlow hlt;rw [← hlow] at d1;have hql:=block_lt_of_cell hlw;have hql0:=block_lt_of_cell hlw0;obtain ⟨⟨x1,n⟩,rfl⟩:∃ y:Hd×BN Sl,y=x:=⟨x,rfl⟩;obtain ⟨⟨y1,n0⟩,rfl⟩:∃ y:Hd×BN Sl,y=x0:=⟨x0,rfl⟩;simp only at d1 d2 d3 d4 d5 hHi hLe hNx hG hG0;obtain ⟨lst,hlst⟩:∃ b,b=decide (i+1=N):=⟨_,rfl⟩;have hbl:n.bnd = !lst:=by rw [d2,hlst];exact bnd_last (by omega)
   have hwi:IntKind.i64.wrap (((i:Nat):Int)+1)=((i+1:Nat):Int):=by rw [show ((i:Nat):Int)+1=((i+1:Nat):Int) by omega];exact IntWalk.i64_in _ (by omega)
   have hle:(((i:Nat):Int)+1 == ((N:Nat):Int))=lst:=by rw [hlst,show ((i:Nat):Int)+1=((i+1:Nat):Int) by omega];exact int_eq_nat _ _
   have hilt:((i:Nat):Int) < ((N:Nat):Int):=by omega
   have hi0:(0:Int)≤((i:Nat):Int):=by omega
   have hN0:(0:Int) < ((N:Nat):Int):=by omega
   have hN0n:0 < N:=by omega
   obtain ⟨k0,k1,kl⟩:=hcel2.out wr i _ hB hx;simp only at k0 k1;replace hB:=qh hB;replace hbn:=qh hbn;replace hbn0:=qh hbn0;replace hc:=qh hc;replace hc0:=qh hc0;replace hsn:=qh hsn;replace hsn0:=qh hsn0;replace hG:=qh hG;replace hG0:=qh hG0;replace hq:=qh hq;replace hq0:=qh hq0;replace hx:=qh hx;replace hx0:=qh hx0;replace hxm:=qh hxm;replace hxm0:=qh hxm0;replace d1:=qh d1;replace d2:=qh d2;replace d3:=qh d3;replace d4:=qh d4;replace d5:=qh d5;replace hlow:=qh hlow;replace hlst:=qh hlst;replace hbl:=qh hbl;go_upto_region 5 with fail;clear k0 k1 kl;have hBa:=hB.out.alloc hB.out.size (.cells #[.int .i64 x1.1,.int .u64 x1.2] 71);have hbx:(wr.alloc (.cells #[.int .i64 x1.1,.int .u64 x1.2] 71)).heap[wr.heap.size]?=some (.cells #[.int .i64 x1.1,.int .u64 x1.2] 71):=heap_alloc_new _ _;generalize wr.alloc (.cells #[.int .i64 x1.1,.int .u64 x1.2] 71)=w2 at *;obtain ⟨HB,hHB⟩:∃ b,b=wr.heap.size:=⟨_,rfl⟩;rw [← hHB] at hbx ⊢;replace hHB:=qh hHB;replace hBa:=qh hBa;replace hbx:=qh hbx;have hBd:=hBa.out.drew;refine wp_region_late [] (S:=fun W'=>W'.cell? ⟨t,1,none⟩=some (.pointer (some ⟨A,0,none⟩))∧W'.heap[HB]?=some (.cells #[.int .i64 x1.1,.int .u64 x1.2] 71)) rfl (⟨keep hBd c1,Below.heap' (Below.refl _ _).drew hbx.out⟩) (fun hHeld=>?_)
   try dsimp only at hHeld
   refine tkW 0 ?_;refine tkW 1 ?_;refine tkW 2 ?_;refine tkM 3 ?_ (hz:=by rintro w ⟨e1,e2⟩;obtain ⟨b0,b1,bq,bf0,bf1⟩:=box2 e2;exact zf);refine tkM 4 ?_ (hz:=by rintro w ⟨e1,e2⟩;obtain ⟨b0,b1,bq,bf0,bf1⟩:=box2 e2;exact zf);refine rdM 5 ?_;intro K hK;go_simp;go_at_call 62;refine (hG.out _ hBd).mono ?_;rintro z3 w3 ⟨rfl,hb⟩;have hB3:=hBd.trans (hb.mono hBd.size);have hS1:w3.cell? ⟨t,1,none⟩=some (.pointer (some ⟨A,0,none⟩))∧w3.heap[HB]?=some (.cells #[.int .i64 x1.1,.int .u64 x1.2] 71):=⟨keep hB3 c1,Below.heap' hb (Below.heap' (Below.refl _ _).drew hbx.out)⟩;clear hb;replace hB3:=qh hB3;go_wp2_with fail;refine hK.out _ _ (fun _ _=>hS1) ?_;clear hHeld hK K;have hHeld:=hS1;clear hS1
   try simp only [Act.put,zs1,zs2,zs3]
   try simp only [Act.put]
   refine tkW 6 ?_;refine tkW 7 ?_;refine tkW 8 ?_;refine tkW 9 ?_;refine tkW 10 ?_;refine wpAnyM_done (by kernel_rfl) ?_ _
   try simp only [Exit.then]
   clear hHeld hBd;go_wp2_with fail;refine (hRi.out _ hB3.out).mono ?_;rintro z4 w4 ⟨rfl,hb⟩;have hB4:=qh (hB3.out.trans (hb.mono hB3.out.size));clear hb;go_upto_region 8 with fail;have hBd:=hB4.out.drew;have hz8:=hcel2.out _ 0 _ hBd hx0.out;rw [Nat.zero_mul] at hz8;simp only at hz8;have kpl:pa < w4.heap.size:=hz8.2.2;refine wp_region_late [] (S:=fun W'=>W'.cell? ⟨t,1,none⟩=some (.pointer (some ⟨A,0,none⟩))∧W'.cell? ⟨pa,0,none⟩=some (.int .i64 y1.1)∧W'.cell? ⟨pa,1,none⟩=some (.int .u64 y1.2)) rfl (⟨keep hBd c1,hz8.1,hz8.2.1⟩) (fun hHeld=>?_)
   try dsimp only at hHeld
   refine tkW 0 ?_;refine tkW 1 ?_;refine tkW 2 ?_;refine tkM 3 ?_ (hz:=by rintro w ⟨e1,e2,e3⟩;exact zf);refine tkW 4 ?_;refine tkW 5 ?_;refine tkM 6 ?_ (hz:=by rintro w ⟨e1,e2,e3⟩;exact zf);refine rdM 7 ?_;intro K hK;go_simp;go_at_call 62;refine (hG0.out _ hBd).mono ?_;rintro z3 w5 ⟨rfl,hb⟩;have hB5:=hBd.trans (hb.mono hBd.size);have hz9:=hcel2.out _ 0 _ hB5 hx0.out;rw [Nat.zero_mul] at hz9;simp only at hz9;have hS1:w5.cell? ⟨t,1,none⟩=some (.pointer (some ⟨A,0,none⟩))∧w5.cell? ⟨pa,0,none⟩=some (.int .i64 y1.1)∧w5.cell? ⟨pa,1,none⟩=some (.int .u64 y1.2):=⟨keep hB5 c1,hz9.1,hz9.2.1⟩;clear hb hz9;replace hB5:=qh hB5;go_wp2_with fail;refine hK.out _ _ (fun _ _=>hS1) ?_;clear hHeld hK K;have hHeld:=hS1;clear hS1
   try simp only [Act.put,zs1,zs2,zs3]
   try simp only [Act.put]
   refine tkW 8 ?_;refine tkW 9 ?_;refine tkW 10 ?_;refine tkW 11 ?_;refine tkW 12 ?_;refine wpAnyM_done (by kernel_rfl) ?_ _
   try simp only [Exit.then]
   clear hHeld hBd hz8 kpl;go_wp2_with fail;refine (hHi.out _ hB5.out).mono ?_;rintro z6 w6 ⟨hv,rfl,hhv,hb⟩;rw [hbl.out] at hhv ⊢;have hB6:=qh (hB5.out.trans (hb.mono hB5.out.size));clear hb;replace hhv:=qh hhv;go_upto_region 11 with fail
   try simp only [hle]
   cases lf
   ·skip
    cases lst
    ·skip
     have hlN:i+1 < N:=by have:=hlst.out;have h9:¬ i+1=N:=(by simpa using this);omega
     obtain ⟨⟨z1,zn⟩,hz1⟩:∃ y:Hd×BN Sl,R[i+1]?=some y:=⟨_,List.getElem?_eq_getElem (by rw [← hN.out];exact hlN)⟩;have hin:(0:Int)≤((i:Nat):Int)+1∧((i:Nat):Int)+1 < ((N:Nat):Int):=by omega
     have hnz:=d3.out _ hz1;simp only at hnz;rw [hnz] at hNx;replace hz1:=qh hz1;have hBd:=hB6.out.drew;have hcw:=hlwW.out _ hBd;have hz:=hcel2.out _ (i+1) _ hBd hz1.out;simp only at hz;have kpl:pa < w6.heap.size:=hz.2.2;refine wp_region_late [] (S:=fun W'=>W'.cell? ⟨q,1,none⟩=some (.bool false)∧W'.cell? ⟨q0,1,none⟩=some (.bool false)∧W'.cell? ⟨pa,(i+1)*2,none⟩=some (.int .i64 z1.1)∧W'.cell? ⟨pa,(i+1)*2+1,none⟩=some (.int .u64 z1.2)) rfl (⟨hcw.1,hcw.2,hz.1,hz.2.1⟩) (fun hHeld=>?_)
     try dsimp only at hHeld
     refine tkW 0 ?_;refine tkW 1 ?_;refine tkW 2 ?_;refine tkM 3 ?_ (hz:=by rintro w ⟨e1,e2,e3,e4⟩;exact zf);refine tkW 4 ?_;refine tkW 5 ?_;refine tkW 6 ?_;refine tkM 7 ?_ (hz:=by rintro w ⟨e1,e2,e3,e4⟩;exact zf);refine tkW 8 ?_;refine tkW 9 ?_;refine tkW 10 ?_;refine tkW 11 ?_;refine tkW 12 ?_;refine tkW 13 ?_;refine tkW 14 ?_;refine tkW 15 ?_;refine tkW 16 ?_;refine tkW 17 ?_;refine tkW 18 ?_;refine tkW 20 ?_;refine tkW 21 ?_;refine tkW 22 ?_;refine tkW 23 ?_;refine tkM 24 ?_ (hz:=by rintro w ⟨e1,e2,e3,e4⟩;exact zf);refine rdM 19 ?_;intro K hK;go_simp;go_at_call 95;refine (hNx.out _ hBd).mono ?_;rintro z3 w7 ⟨rfl,hb⟩;have hB7:=hBd.trans (hb.mono hBd.size);have hcw7:=hlwW.out _ hB7;have hz7:=hcel2.out _ (i+1) _ hB7 hz1.out;simp only at hz7;have hS1:w7.cell? ⟨q,1,none⟩=some (.bool false)∧w7.cell? ⟨q0,1,none⟩=some (.bool false)∧w7.cell? ⟨pa,(i+1)*2,none⟩=some (.int .i64 z1.1)∧w7.cell? ⟨pa,(i+1)*2+1,none⟩=some (.int .u64 z1.2):=⟨hcw7.1,hcw7.2,hz7.1,hz7.2.1⟩;clear hz7;clear hb hcw7;replace hB7:=qh hB7;go_wp2_with fail;refine hK.out _ _ (fun _ _=>hS1) ?_;clear hHeld hK K;have hHeld:=hS1;clear hS1
     try simp only [Act.put,zs1,zs2,zs3]
     try simp only [Act.put]
     refine takeW 25 (by simp only [zg1,zg3,zg2];rfl) ?_;refine ⟨by kernel_rfl,by kernel_rfl,by kernel_rfl,.bool false,fun _ _ _ h=>h,Or.inl ⟨by rfl,?_⟩,?_⟩
     ·intro w hSw;clear hSw;go_simp
     try simp only [Act.put,zs1,zs2,zs3]
     refine tkW 26 ?_;refine tkW 27 ?_;refine tkW 28 ?_;refine tkW 29 ?_;refine tkW 30 ?_;refine nkW 31 ?_;refine nkW 33 ?_;refine rdM 32 ?_;intro K hK;rw [if_neg (by intro h;cases h)];have hS1:=hHeld;refine hK.out _ _ (fun _ _=>hS1) ?_;clear hHeld hK K;have hHeld:=hS1;clear hS1
     try simp only [Act.put,zs1,zs2,zs3]
     try simp only [Act.put]
     refine nkW 34 ?_;refine tkW 35 ?_;refine tkW 36 ?_;refine wpAnyM_done (by kernel_rfl) ?_ _
     try simp only [Exit.then]
     clear hHeld hBd hcw hz kpl;go_wp2_with fail;refine (hLe.out _ hB7.out).mono ?_;rintro z8 w8 ⟨lv,rfl,hlv,hb⟩;have hB8:=qh (hB7.out.trans (hb.mono hB7.out.size));clear hb;replace hlv:=qh hlv;obtain ⟨sm,hsm⟩:∃ b,b=decide (0 < n.keys.length):=⟨_,rfl⟩;rw [← hsm]
     have hxl:sm=true→Op.bytesLess lv.toList low.toList=false:=fun h9=>by
      rw [less_slt];rw [hsm] at h9;exact sle_iff.1 (d1.out.low lv (List.mem_of_getElem? (hlv.out (by simpa using h9))))
     replace hsm:=qh hsm;have hhe:hv=n.high:=hhv.out rfl;have hrm:=d1.out.room (by rw [hbl.out];rfl);rw [← hhe] at hrm;have hhl:Op.bytesLess hv.toList low.toList=false:=by rw [less_slt];exact slt_asymm hrm
     have hhn:(hv.toList == low.toList)=false:=toList_ne (fun e=>by rw [e,slt_irrefl] at hrm;cases hrm);replace hrm:=qh hrm;replace hhe:=qh hhe
     cases sm
     ·skip
      go_upto_region 14 with fail;go_wp2_with fail;go_roundg (N - i)
      case rel =>
       exact ⟨i+1,by omega,by omega,congrArg _ (by omega),⟨hv,rfl,fun h9=>by rw [d5.out h9];exact hhe.out⟩,hB8.out⟩
      case measure=>omega
     ·skip
      replace hxl:=hxl rfl;go_upto_region 14 with fail;go_wp2_with fail;go_roundg (N - i)
      case rel =>
       exact ⟨i+1,by omega,by omega,congrArg _ (by omega),⟨hv,rfl,fun h9=>by rw [d5.out h9];exact hhe.out⟩,hB8.out⟩
      case measure=>omega
    ·skip
     have hnz:n.next=(0,0):=d4.out (by have:=hlst.out;simpa using this);rw [hnz] at hNx;simp only at hNx;have hBd:=hB6.out.drew;have hcw:=hlwW.out _ hBd;refine wp_region_late [] (S:=fun W'=>W'.cell? ⟨q,1,none⟩=some (.bool false)∧W'.cell? ⟨q0,1,none⟩=some (.bool false)) rfl (⟨hcw.1,hcw.2⟩) (fun hHeld=>?_)
     try dsimp only at hHeld
     refine tkW 0 ?_;refine tkW 1 ?_;refine tkW 2 ?_;refine tkM 3 ?_ (hz:=by rintro w ⟨e1,e2⟩;exact zf);refine tkW 4 ?_;refine tkW 5 ?_;refine tkW 6 ?_;refine tkM 7 ?_ (hz:=by rintro w ⟨e1,e2⟩;exact zf);refine tkW 8 ?_;refine tkW 9 ?_;refine tkW 10 ?_;refine tkW 11 ?_;refine tkW 12 ?_;refine tkW 13 ?_;refine tkW 14 ?_;refine tkW 15 ?_;refine tkW 16 ?_;refine tkW 17 ?_;refine nkW 18 ?_;refine nkW 20 ?_;refine nkW 21 ?_;refine nkW 22 ?_;refine nkW 23 ?_;refine nkW 24 ?_;refine rdM 19 ?_;intro K hK;rw [if_neg (by intro h;cases h)];have hS1:=hHeld;refine hK.out _ _ (fun _ _=>hS1) ?_;clear hHeld hK K;have hHeld:=hS1;clear hS1
     try simp only [Act.put,zs1,zs2,zs3]
     try simp only [Act.put]
     refine nkW 25 ?_;refine tkW 26 ?_;refine tkW 27 ?_;refine tkW 28 ?_;refine tkW 29 ?_;refine tkW 30 ?_;refine tkW 31 ?_;refine tkW 33 ?_;refine rdM 32 ?_;intro K hK;go_simp;go_at_call 95;refine (hNx.out _ hBd).mono ?_;rintro z3 w7 ⟨rfl,hb⟩;have hB7:=hBd.trans (hb.mono hBd.size);have hcw7:=hlwW.out _ hB7;have hS1:w7.cell? ⟨q,1,none⟩=some (.bool false)∧w7.cell? ⟨q0,1,none⟩=some (.bool false):=hcw7;clear hb hcw7;replace hB7:=qh hB7;go_wp2_with fail;refine hK.out _ _ (fun _ _=>hS1) ?_;clear hHeld hK K;have hHeld:=hS1;clear hS1
     try simp only [Act.put,zs1,zs2,zs3]
     try simp only [Act.put]
     refine takeW 34 (by simp only [zg1,zg3,zg2];rfl) ?_;refine ⟨by kernel_rfl,by kernel_rfl,by kernel_rfl,.bool false,fun _ _ _ h=>h,Or.inl ⟨by rfl,?_⟩,?_⟩
     ·intro w hSw;clear hSw;go_simp
     try simp only [Act.put,zs1,zs2,zs3]
     refine tkW 35 ?_;refine tkW 36 ?_;refine wpAnyM_done (by kernel_rfl) ?_ _
     try simp only [Exit.then]
     clear hHeld hBd hcw;go_wp2_with fail;refine (hLe.out _ hB7.out).mono ?_;rintro z8 w8 ⟨lv,rfl,hlv,hb⟩;have hB8:=qh (hB7.out.trans (hb.mono hB7.out.size));clear hb;replace hlv:=qh hlv;obtain ⟨sm,hsm⟩:∃ b,b=decide (0 < n.keys.length):=⟨_,rfl⟩;rw [← hsm]
     have hxl:sm=true→Op.bytesLess lv.toList low.toList=false:=fun h9=>by
      rw [less_slt];rw [hsm] at h9;exact sle_iff.1 (d1.out.low lv (List.mem_of_getElem? (hlv.out (by simpa using h9))))
     replace hsm:=qh hsm
     cases sm
     ·skip
      go_upto_region 14 with fail;go_wp2_with fail;go_roundg (N - i)
      case rel =>
       exact ⟨i+1,by omega,by omega,congrArg _ (by omega),⟨hv,rfl,fun h9=>by have:=hlst.out;have h8:i+1=N:=(by simpa using this);omega⟩,hB8.out⟩
      case measure=>omega
     ·skip
      replace hxl:=hxl rfl;go_upto_region 14 with fail;go_wp2_with fail;go_roundg (N - i)
      case rel =>
       exact ⟨i+1,by omega,by omega,congrArg _ (by omega),⟨hv,rfl,fun h9=>by have:=hlst.out;have h8:i+1=N:=(by simpa using this);omega⟩,hB8.out⟩
      case measure=>omega
   ·skip
    cases lst
    ·skip
     have hlN:i+1 < N:=by have:=hlst.out;have h9:¬ i+1=N:=(by simpa using this);omega
     obtain ⟨⟨z1,zn⟩,hz1⟩:∃ y:Hd×BN Sl,R[i+1]?=some y:=⟨_,List.getElem?_eq_getElem (by rw [← hN.out];exact hlN)⟩;have hin:(0:Int)≤((i:Nat):Int)+1∧((i:Nat):Int)+1 < ((N:Nat):Int):=by omega
     have hnz:=d3.out _ hz1;simp only at hnz;rw [hnz] at hNx;replace hz1:=qh hz1;have hBd:=hB6.out.drew;have hcw:=hlwW.out _ hBd;have hz:=hcel2.out _ (i+1) _ hBd hz1.out;simp only at hz;have kpl:pa < w6.heap.size:=hz.2.2;refine wp_region_late [] (S:=fun W'=>W'.cell? ⟨q,1,none⟩=some (.bool true)∧W'.cell? ⟨q0,1,none⟩=some (.bool true)∧W'.cell? ⟨pa,(i+1)*2,none⟩=some (.int .i64 z1.1)∧W'.cell? ⟨pa,(i+1)*2+1,none⟩=some (.int .u64 z1.2)) rfl (⟨hcw.1,hcw.2,hz.1,hz.2.1⟩) (fun hHeld=>?_)
     try dsimp only at hHeld
     refine tkW 0 ?_;refine tkW 1 ?_;refine tkW 2 ?_;refine tkM 3 ?_ (hz:=by rintro w ⟨e1,e2,e3,e4⟩;exact zf);refine tkW 4 ?_;refine tkW 5 ?_;refine tkW 6 ?_;refine tkM 7 ?_ (hz:=by rintro w ⟨e1,e2,e3,e4⟩;exact zf);refine tkW 8 ?_;refine tkW 9 ?_;refine tkW 10 ?_;refine tkW 11 ?_;refine tkW 12 ?_;refine tkW 13 ?_;refine tkW 14 ?_;refine tkW 15 ?_;refine tkW 16 ?_;refine tkW 17 ?_;refine tkW 18 ?_;refine tkW 20 ?_;refine tkW 21 ?_;refine tkW 22 ?_;refine tkW 23 ?_;refine tkM 24 ?_ (hz:=by rintro w ⟨e1,e2,e3,e4⟩;exact zf);refine rdM 19 ?_;intro K hK;go_simp;go_at_call 95;refine (hNx.out _ hBd).mono ?_;rintro z3 w7 ⟨rfl,hb⟩;have hB7:=hBd.trans (hb.mono hBd.size);have hcw7:=hlwW.out _ hB7;have hz7:=hcel2.out _ (i+1) _ hB7 hz1.out;simp only at hz7;have hS1:w7.cell? ⟨q,1,none⟩=some (.bool true)∧w7.cell? ⟨q0,1,none⟩=some (.bool true)∧w7.cell? ⟨pa,(i+1)*2,none⟩=some (.int .i64 z1.1)∧w7.cell? ⟨pa,(i+1)*2+1,none⟩=some (.int .u64 z1.2):=⟨hcw7.1,hcw7.2,hz7.1,hz7.2.1⟩;clear hz7;clear hb hcw7;replace hB7:=qh hB7;go_wp2_with fail;refine hK.out _ _ (fun _ _=>hS1) ?_;clear hHeld hK K;have hHeld:=hS1;clear hS1
     try simp only [Act.put,zs1,zs2,zs3]
     try simp only [Act.put]
     refine takeW 25 (by simp only [zg1,zg3,zg2];rfl) ?_;refine ⟨by kernel_rfl,by kernel_rfl,by kernel_rfl,.bool false,fun _ _ _ h=>h,Or.inl ⟨by rfl,?_⟩,?_⟩
     ·intro w hSw;clear hSw;go_simp
     try simp only [Act.put,zs1,zs2,zs3]
     refine tkW 26 ?_;refine tkW 27 ?_;refine tkW 28 ?_;refine tkW 29 ?_;refine tkW 30 ?_;refine nkW 31 ?_;refine nkW 33 ?_;refine rdM 32 ?_;intro K hK;rw [if_neg (by intro h;cases h)];have hS1:=hHeld;refine hK.out _ _ (fun _ _=>hS1) ?_;clear hHeld hK K;have hHeld:=hS1;clear hS1
     try simp only [Act.put,zs1,zs2,zs3]
     try simp only [Act.put]
     refine nkW 34 ?_;refine tkW 35 ?_;refine tkW 36 ?_;refine wpAnyM_done (by kernel_rfl) ?_ _
     try simp only [Exit.then]
     clear hHeld hBd hcw hz kpl;go_wp2_with fail;refine (hLe.out _ hB7.out).mono ?_;rintro z8 w8 ⟨lv,rfl,hlv,hb⟩;have hB8:=qh (hB7.out.trans (hb.mono hB7.out.size));clear hb;replace hlv:=qh hlv;obtain ⟨sm,hsm⟩:∃ b,b=decide (0 < n.keys.length):=⟨_,rfl⟩;rw [← hsm]
     have hxl:sm=true→Op.bytesLess lv.toList low.toList=false:=fun h9=>by
      rw [less_slt];rw [hsm] at h9;exact sle_iff.1 (d1.out.low lv (List.mem_of_getElem? (hlv.out (by simpa using h9))))
     replace hsm:=qh hsm;have hhe:hv=n.high:=hhv.out rfl;have hrm:=d1.out.room (by rw [hbl.out];rfl);rw [← hhe] at hrm;have hhl:Op.bytesLess hv.toList low.toList=false:=by rw [less_slt];exact slt_asymm hrm
     have hhn:(hv.toList == low.toList)=false:=toList_ne (fun e=>by rw [e,slt_irrefl] at hrm;cases hrm);replace hrm:=qh hrm;replace hhe:=qh hhe
     cases sm
     ·skip
      go_upto_region 14 with fail;go_wp2_with fail;go_roundg (N - i)
      case rel =>
       exact ⟨i+1,by omega,by omega,congrArg _ (by omega),⟨hv,rfl,fun h9=>by rw [d5.out h9];exact hhe.out⟩,hB8.out⟩
      case measure=>omega
     ·skip
      replace hxl:=hxl rfl;go_upto_region 14 with fail;go_wp2_with fail;go_roundg (N - i)
      case rel =>
       exact ⟨i+1,by omega,by omega,congrArg _ (by omega),⟨hv,rfl,fun h9=>by rw [d5.out h9];exact hhe.out⟩,hB8.out⟩
      case measure=>omega
    ·skip
     have hnz:n.next=(0,0):=d4.out (by have:=hlst.out;simpa using this);rw [hnz] at hNx;simp only at hNx;have hBd:=hB6.out.drew;have hcw:=hlwW.out _ hBd;refine wp_region_late [] (S:=fun W'=>W'.cell? ⟨q,1,none⟩=some (.bool true)∧W'.cell? ⟨q0,1,none⟩=some (.bool true)) rfl (⟨hcw.1,hcw.2⟩) (fun hHeld=>?_)
     try dsimp only at hHeld
     refine tkW 0 ?_;refine tkW 1 ?_;refine tkW 2 ?_;refine tkM 3 ?_ (hz:=by rintro w ⟨e1,e2⟩;exact zf);refine tkW 4 ?_;refine tkW 5 ?_;refine tkW 6 ?_;refine tkM 7 ?_ (hz:=by rintro w ⟨e1,e2⟩;exact zf);refine tkW 8 ?_;refine tkW 9 ?_;refine tkW 10 ?_;refine tkW 11 ?_;refine tkW 12 ?_;refine tkW 13 ?_;refine tkW 14 ?_;refine tkW 15 ?_;refine tkW 16 ?_;refine tkW 17 ?_;refine nkW 18 ?_;refine nkW 20 ?_;refine nkW 21 ?_;refine nkW 22 ?_;refine nkW 23 ?_;refine nkW 24 ?_;refine rdM 19 ?_;intro K hK;rw [if_neg (by intro h;cases h)];have hS1:=hHeld;refine hK.out _ _ (fun _ _=>hS1) ?_;clear hHeld hK K;have hHeld:=hS1;clear hS1
     try simp only [Act.put,zs1,zs2,zs3]
     try simp only [Act.put]
     refine nkW 25 ?_;refine tkW 26 ?_;refine tkW 27 ?_;refine tkW 28 ?_;refine tkW 29 ?_;refine tkW 30 ?_;refine tkW 31 ?_;refine tkW 33 ?_;refine rdM 32 ?_;intro K hK;go_simp;go_at_call 95;refine (hNx.out _ hBd).mono ?_;rintro z3 w7 ⟨rfl,hb⟩;have hB7:=hBd.trans (hb.mono hBd.size);have hcw7:=hlwW.out _ hB7;have hS1:w7.cell? ⟨q,1,none⟩=some (.bool true)∧w7.cell? ⟨q0,1,none⟩=some (.bool true):=hcw7;clear hb hcw7;replace hB7:=qh hB7;go_wp2_with fail;refine hK.out _ _ (fun _ _=>hS1) ?_;clear hHeld hK K;have hHeld:=hS1;clear hS1
     try simp only [Act.put,zs1,zs2,zs3]
     try simp only [Act.put]
     refine takeW 34 (by simp only [zg1,zg3,zg2];rfl) ?_;refine ⟨by kernel_rfl,by kernel_rfl,by kernel_rfl,.bool false,fun _ _ _ h=>h,Or.inl ⟨by rfl,?_⟩,?_⟩
     ·intro w hSw;clear hSw;go_simp
     try simp only [Act.put,zs1,zs2,zs3]
     refine tkW 35 ?_;refine tkW 36 ?_;refine wpAnyM_done (by kernel_rfl) ?_ _
     try simp only [Exit.then]
     clear hHeld hBd hcw;go_wp2_with fail;refine (hLe.out _ hB7.out).mono ?_;rintro z8 w8 ⟨lv,rfl,hlv,hb⟩;have hB8:=qh (hB7.out.trans (hb.mono hB7.out.size));clear hb;replace hlv:=qh hlv;obtain ⟨sm,hsm⟩:∃ b,b=decide (0 < n.keys.length):=⟨_,rfl⟩;rw [← hsm]
     have hxl:sm=true→Op.bytesLess lv.toList low.toList=false:=fun h9=>by
      rw [less_slt];rw [hsm] at h9;exact sle_iff.1 (d1.out.low lv (List.mem_of_getElem? (hlv.out (by simpa using h9))))
     replace hsm:=qh hsm
     cases sm
     ·skip
      go_upto_region 14 with fail;go_wp2_with fail;go_roundg (N - i)
      case rel =>
       exact ⟨i+1,by omega,by omega,congrArg _ (by omega),⟨hv,rfl,fun h9=>by have:=hlst.out;have h8:i+1=N:=(by simpa using this);omega⟩,hB8.out⟩
      case measure=>omega
     ·skip
      replace hxl:=hxl rfl;go_upto_region 14 with fail;go_wp2_with fail;go_roundg (N - i)
      case rel =>
       exact ⟨i+1,by omega,by omega,congrArg _ (by omega),⟨hv,rfl,fun h9=>by have:=hlst.out;have h8:i+1=N:=(by simpa using this);omega⟩,hB8.out⟩
      case measure=>omega
  ·skip
   obtain rfl:i=N:=by omega
   go_wp2_with fail;go_ret;exact ⟨rfl,hB⟩
open Go.RowKit
section
variable {β:Type}
def wants (R:Lev β):List Str:=R.flatMap fun x=>x.2.keys++if x.2.bnd then [x.2.high] else []
def kidsOf (R:Lev β):List Hd:=R.flatMap fun x=>x.2.kids
theorem wants_snoc (A:Lev β) (x:Hd×BN β):wants (A++[x])=(wants A++x.2.keys)++if x.2.bnd then [x.2.high] else []:=by simp [wants]
theorem kidsOf_snoc (A:Lev β) (x:Hd×BN β):kidsOf (A++[x])=kidsOf A++x.2.kids:=by simp [kidsOf]
theorem kidsK_snd {n:BN β} (h:n.kids.length=n.keys.length+1):(kidsK n).map (·.2)=n.keys.map some++[n.hi]:=by
 unfold kidsK
 rw [List.map_snd_zip (by simp;omega)]
theorem under_ends:∀ {R:Lev β} {lo:Str},R≠[]→Seg lo R (0,0) none→(∀ x,x∈R→x.2.leaf=false)→(under R).map (·.2)=(wants R).map some++[none]
 | [],_,h,_,_=>absurd rfl h
 | (h0,n)::B,lo,_,⟨h1,h2,h3⟩,hl=>by
  have hk:=(h1.inn (hl (h0,n) (by simp))).2;rw [under_cons,List.map_append,kidsK_snd hk];by_cases hb:n.bnd=true
  ·rw [if_pos hb] at h3
   have hB:B≠[]:=by
    intro e;rw [e] at h3;simp [Seg] at h3
   rw [under_ends hB h3 (fun x hx=>hl x (by simp [hx]))];simp [wants,hb,BN.hi]
  ·rw [if_neg hb] at h3
   rw [h3.1];simp [wants,hb,BN.hi,under]
theorem flatMap_eq {α γ:Type} {f g:α→List γ}:∀ {l:List α},(∀ x,x∈l→f x=g x)→l.flatMap f=l.flatMap g
 | [],_=>rfl
 | x::l,h=>by rw [List.flatMap_cons,List.flatMap_cons,h x (by simp),flatMap_eq (fun y hy=>h y (by simp [hy]))]
theorem Tower.kids {Ls : List (Lev β)} (ht : Tower Ls) {j : Nat} {S R : Lev β} (hS : Ls[j]? = some S) (hR : Ls[j + 1]? = some R) :
    kidsOf R=S.map (·.1)∧S.length=(wants R).length+1∧∀ (i:Nat) (x:Hd×BN β),S[i]?=some x→x.2.bnd=true→(wants R)[i]?=some x.2.high:=by
 have okR:=ht.ok _ _ hR
 rw [show decide (j+1=0)=false by simp] at okR
 have hne:R≠[]:=by
  intro e;have:=okR.seg;rw [e] at this;simp [Seg] at this
 have hl:=ht.link _ _ _ hS hR
 have h1:=under_ends hne okR.seg okR.lf
 rw [← hl] at h1
 unfold sk at h1
 rw [List.map_map] at h1
 have hlen:S.length=(wants R).length+1:=by have:=congrArg List.length h1;simpa using this
 refine ⟨?_,hlen,fun i x hx hb=>?_⟩
 ·have h2:=congrArg (List.map Prod.fst) hl
  unfold sk under at h2;rw [List.map_map,List.map_flatMap] at h2;have h3:S.map (Prod.fst ∘ fun x=>(x.1,x.2.hi))=S.map (·.1):=rfl;rw [h3] at h2;rw [h2];unfold kidsOf;refine flatMap_eq fun x hx=>?_
  obtain ⟨l,hl⟩:=okR.node hx;have hk:=(hl.inn (okR.lf x hx)).2;unfold kidsK;rw [List.map_fst_zip (by simp;omega)]
 ·have h2:=congrArg (fun l=>l[i]?) h1
  simp only [List.getElem?_map,hx] at h2;have hil:=(List.getElem?_eq_some_iff.1 hx).1;rcases Nat.lt_or_ge i (wants R).length with h9 | h9
  ·obtain ⟨k,hk⟩:∃ k,(wants R)[i]?=some k:=⟨_,List.getElem?_eq_getElem h9⟩
   rw [List.getElem?_append_left (by simpa using h9),List.getElem?_map,hk] at h2;simp only [Option.map_some,Function.comp,Option.some.injEq,BN.hi,hb,if_true] at h2;rw [hk,h2]
  ·have h8:i=(wants R).length:=by omega
   rw [List.getElem?_append_right (by simpa using h9)] at h2;simp [h8,BN.hi,hb] at h2
end
theorem st_info:∃ i0:TypeInfo,Tryz.prog.info? 9=some i0∧i0.zero=some (.string ⟨#[]⟩)∧i0.size=1∧i0.bytes=16:=info_parts (show (Tryz.prog.info? 9).map (fun i=>(i.zero,i.size,i.bytes))=some (some (.string ⟨#[]⟩),1,16) by kernel_rfl)
def Dj (u v:Value):Prop:=∀ b,u.ownBlock=some b→v.ownBlock≠some b
theorem Dj.left {u u' v:Value} {n m:Nat} (h:Dj u v) (hu:u'.ownBlock=u.ownBlock∨u'.ownBlock=some n) (hv:∀ b,v.ownBlock=some b→m≤b∧b < n):Dj u' v:=fun b hb hc=>by
 rcases hu with e | e
 ·exact h b (by rw [← e];exact hb) hc
 ·rw [e] at hb
  injection hb with hb;have:=(hv b hc).2;omega
theorem Dj.swap {u v:Value} (h:Dj u v):Dj v u:=fun b hb hc=>h b hc hb
theorem Dj.nin {u v:Value} (h:Dj u v):∀ b,v.ownBlock=some b→b∉u.ownBlock.toList:=fun b hb hc=>h b (by simpa using hc) hb
theorem kidsOf_take {β:Type} {R:Lev β} {i:Nat} {x:Hd×BN β} (hx:R[i]?=some x):kidsOf (R.take (i+1))=kidsOf (R.take i)++x.2.kids:=by
 rw [List.take_add_one,hx]
 exact kidsOf_snoc _ _
theorem wants_take {β:Type} {R:Lev β} {i:Nat} {x:Hd×BN β} (hx:R[i]?=some x):wants (R.take (i+1))=(wants (R.take i)++x.2.keys)++if x.2.bnd then [x.2.high] else []:=by
 rw [List.take_add_one,hx]
 exact wants_snoc _ _
theorem kidsOf_len {β:Type} (R:Lev β) (i:Nat):(kidsOf (R.take i)).length≤(kidsOf R).length:=by
 conv=>rhs;rw [← List.take_append_drop i R]
 unfold kidsOf
 rw [List.flatMap_append,List.length_append]
 omega
theorem wants_len {β:Type} (R:Lev β) (i:Nat):(wants (R.take i)).length≤(wants R).length:=by
 conv=>rhs;rw [← List.take_append_drop i R]
 unfold wants
 rw [List.flatMap_append,List.length_append]
 omega
def KdE (w:World) (L:List Hd) (x:Ending) (w':World):Prop:=∃ a c,x=.returned (.tuple #[.slice a L.length c,.bool true])∧Row w.heap.size 71 2 hcel w' (.slice a L.length c) L∧Below w.heap.size w w'
set_option maxRecDepth 100000 in
set_option maxHeartbeats 3000000 in
theorem MTr.kids {w0 w : World} {T : TS} {Y : List Ly} {C : Cont Str} {l : Ly} {j : Nat} {S R : Lev Sl} (h : MTr w0 w T Y C) (hl : l ∈ Y) (hS : l.Ls[j]? = some S) (hR : l.Ls[j + 1]? = some R) {base : Nat} {a : Option Addr} {c : Nat} (hrow : Row base 71 2 hcel w (.slice a R.length c) (R.map (·.1))) :
    Calls Tryz.prog 106 #[.pointer (some ⟨T.t,0,none⟩),.slice a R.length c] w (KdE w (S.map (·.1))):=by
 have c1:=h.am.cells.2.1
 have htw:=h.sane.ok.tow l hl
 obtain ⟨hk1,hk2,hk3⟩:=htw.kids hS hR
 have hlf:=(htw.ok _ _ hR).lf
 rw [show decide (j+1=0)=false by simp] at hlf
 have hlen:∀ (k:Nat) (Q:Lev Sl),l.Ls[k]?=some Q→Q.length≤20000:=fun k Q hQ=>by
  obtain ⟨X,Z,e1,_⟩:=lev_set (S':=[]) hQ;have:=h.sane.nod l hl;unfold nodes at this;rw [e1] at this;simp at this;omega
 have hRn:=hlen _ _ hR
 have hSn:=hlen _ _ hS
 have hEn:=qh fun (x:Hd×BN Sl) (hx:x∈l.Ls.flatten)=>h.node (x:=x) (List.mem_flatMap.2 ⟨l,hl,hx⟩)
 have hmf:∀ x,x∈R→x∈l.Ls.flatten:=fun x hx=>mem_flat hR hx
 have hmS:∀ x,x∈S→x∈l.Ls.flatten:=fun x hx=>mem_flat hS hx
 obtain ⟨i1,hi1,hyA,hyB,hyC⟩:=hd_info
 obtain ⟨i0,hi0,hzA,hzB,hzC⟩:=st_info
 obtain ⟨A,hA⟩:∃ a,a=T.d.A.a:=⟨_,rfl⟩
 rw [← hA] at c1 hEn
 obtain ⟨t,ht⟩:∃ t,t=T.t:=⟨_,rfl⟩
 rw [← ht] at c1 ⊢
 have htl:=block_lt_of_cell c1
 replace hA:=qh hA
 replace ht:=qh ht
 replace hrow:=qh hrow
 replace hlf:=qh hlf
 replace hmf:=qh hmf
 replace hmS:=qh hmS
 replace hk1:=qh hk1
 replace hk3:=qh hk3
 obtain ⟨N,hN⟩:∃ N,N=R.length:=⟨_,rfl⟩
 rw [← hN] at hrow hRn ⊢
 replace hN:=qh hN
 clear h hl hR hS htw hlen
 unfold hV at hEn
 go_enter Tryz.func106,Tryz.ntmps106
 go_wp2_with fail
 go_loopg [20,6,7] (N+1) (fun gk v20 v6 v7 wr=>∃ (i:Nat),gk=N+1 - i∧i≤N∧v20=.int .i64 ((i:Nat):Int)∧Row w.heap.size 71 2 hcel wr v6 (kidsOf (R.take i))∧Row w.heap.size 9 1 scell wr v7 (wants (R.take i))∧Dj v6 v7∧Below w.heap.size w wr)
 case atStart=>exact ⟨0,rfl,Nat.zero_le _,rfl,Row.nil hcel_len hcel_one _ _ _,Row.nil scell_len scell_one _ _ _,fun b hb _=>(by cases hb),Below.refl _ _⟩
 case round =>
  obtain ⟨i,rfl,hiN,rfl,hrH,hrS,hdj,hB⟩:=hrel;obtain ⟨va,vc,rfl⟩:=hrH.shape;obtain ⟨sa,sc,rfl⟩:=hrS.shape;by_cases hlt:i < N
  ·skip
   obtain ⟨x,hx⟩:∃ x,R[i]?=some x:=⟨_,List.getElem?_eq_getElem (by rw [← hN.out];exact hlt)⟩;have hxm:=List.mem_of_getElem? hx;obtain ⟨e,nd,_,hbn,_,_,_,hc,hsn,hG⟩:=hEn.out x (hmf.out x hxm);obtain ⟨q,hq⟩:∃ q,q=e.blk:=⟨_,rfl⟩;rw [← hq] at hc hG;have hk:=kidsOf_take hx;have hw:=wants_take hx;have hlk:=kidsOf_len R (i+1);have hlw:=wants_len R (i+1);rw [hk1.out,List.length_map] at hlk
   have hrc:∃ pb,a=some ⟨pb,0,none⟩∧w.cell? ⟨pb,i*2,none⟩=some (.int .i64 x.1.1)∧w.cell? ⟨pb,i*2+1,none⟩=some (.int .u64 x.1.2)∧pb < w.heap.size∧N≤c:=by
    obtain ⟨b',c',ev,_,_,hb2,h5,_,_,hat⟩:=hrow.out.at (i:=i) (x:=x.1) (by rw [List.getElem?_map,hx];rfl);injection ev with ev _ ev2;subst ev ev2;exact ⟨b',rfl,hat 0 _ rfl,hat 1 _ rfl,hb2,by rw [List.length_map] at h5;rw [hN.out];exact h5⟩
   obtain ⟨pa,rfl,k0,k1,kl,hNc⟩:=hrc;replace k0:=keep hB k0;replace k1:=keep hB k1;replace kl:=Nat.lt_of_lt_of_le kl hB.size
   have hcs:∃ ka kc va vc ha hc,(∀ W,Below w.heap.size w W→W.cell? ⟨q,114,none⟩=some (.slice ka x.2.keys.length kc)∧W.cell? ⟨q,116,none⟩=some (.slice ha x.2.kids.length hc)∧W.cell? ⟨q,117,none⟩=some (.string x.2.high)∧W.cell? ⟨q,118,none⟩=some (.bool x.2.bnd))∧At w 1 scell ka kc x.2.keys∧At w 2 hcel ha hc x.2.kids∧va=ka∧vc=kc:=by
    have h0:=hlf.out x hxm;rcases hsn.cases with ⟨f,s1,s2,s3,s4⟩ | ⟨s1,s2,s3,ic,B,s4,s5⟩
    ·rw [hbn,h0] at s2;cases s2
    ·rw [hbn] at s5
     obtain ⟨ka,kc,va,vc,ha,hc9,e9,s6,s7⟩:=s5.cells;rw [s4,e9] at hc;have s8:=(InAt.of (rng1 hc)).inn;exact ⟨ka,kc,ka,kc,ha,hc9,fun W hW=>⟨keep hW (s8 1 _ rfl),keep hW (s8 3 _ rfl),keep hW (s8 4 _ rfl),keep hW (s8 5 _ rfl)⟩,s6,s7,rfl,rfl⟩
   obtain ⟨ka,kc,_,_,ha,hc9,hcs,hka,hha,_,_⟩:=hcs;replace hcs:=qh hcs;replace hka:=qh hka;replace hha:=qh hha;have hql:q < wr.heap.size:=by have:=block_lt_of_cell (hcs.out w (Below.refl _ _)).1;exact Nat.lt_of_lt_of_le this hB.size
   obtain ⟨⟨x1,n⟩,rfl⟩:∃ y:Hd×BN Sl,y=x:=⟨x,rfl⟩;simp only at hk hw hG hcs hka hha k0 k1;have hilt:((i:Nat):Int) < ((N:Nat):Int):=by omega
   have hi0z:(0:Int)≤((i:Nat):Int):=by omega
   obtain ⟨KK,hKK⟩:∃ X,X=n.keys:=⟨_,rfl⟩;obtain ⟨HH,hHH⟩:∃ X,X=n.kids:=⟨_,rfl⟩;obtain ⟨hi,hhi⟩:∃ X,X=n.high:=⟨_,rfl⟩;obtain ⟨bd,hbd⟩:∃ X,X=n.bnd:=⟨_,rfl⟩;rw [← hKK,← hhi,← hbd] at hw;rw [← hHH] at hk;rw [← hKK,← hHH,← hhi,← hbd] at hcs;rw [← hKK] at hka;rw [← hHH] at hha;obtain ⟨LH,hLH⟩:∃ X,X=kidsOf (R.take i):=⟨_,rfl⟩;obtain ⟨LS,hLS⟩:∃ X,X=wants (R.take i):=⟨_,rfl⟩;rw [← hLH] at hrH hk hdj ⊢;rw [← hLS] at hrS hw hdj ⊢;rw [hk,List.length_append] at hlk;rw [hw,List.length_append,List.length_append] at hlw;have hm1:Hid (LH.length+HH.length≤maxLen):=qh (by unfold maxLen;omega);have hy1:Hid ((LH.length+HH.length)*16≤140737488355328):=qh (by omega);have hm2:Hid (LS.length+KK.length≤maxLen):=qh (by unfold maxLen;omega);have hy2:Hid ((LS.length+KK.length)*16≤140737488355328):=qh (by omega);have hm3:bd=true→Hid ((LS++KK).length+1≤maxLen∧((LS++KK).length+1)*16≤140737488355328):=fun hb=>qh (by rw [List.length_append];unfold maxLen;omega)
   replace hB:=qh hB;replace hbn:=qh hbn;replace hc:=qh hc;replace hsn:=qh hsn;replace hG:=qh hG;replace hq:=qh hq;replace hx:=qh hx;replace hxm:=qh hxm;replace hk:=qh hk;replace hw:=qh hw;replace hlk:=qh hlk;replace hlw:=qh hlw;replace hrH:=qh hrH;replace hrS:=qh hrS;replace hdj:=qh hdj;replace hLH:=qh hLH;replace hLS:=qh hLS;replace hKK:=qh hKK;replace hHH:=qh hHH;replace hhi:=qh hhi;replace hbd:=qh hbd;go_upto_region 6 with fail;clear k0 k1 kl;have hBa:=hB.out.alloc hB.out.size (.cells #[.int .i64 x1.1,.int .u64 x1.2] 71);have hA1:=qh ((Below.refl wr.heap.size wr).alloc (Nat.le_refl _) (.cells #[.int .i64 x1.1,.int .u64 x1.2] 71));have hbx:(wr.alloc (.cells #[.int .i64 x1.1,.int .u64 x1.2] 71)).heap[wr.heap.size]?=some (.cells #[.int .i64 x1.1,.int .u64 x1.2] 71):=heap_alloc_new _ _;generalize wr.alloc (.cells #[.int .i64 x1.1,.int .u64 x1.2] 71)=w2 at *;obtain ⟨HB,hHB⟩:∃ b,b=wr.heap.size:=⟨_,rfl⟩;rw [← hHB] at hbx ⊢;replace hHB:=qh hHB;replace hBa:=qh hBa;replace hbx:=qh hbx;have hBd:=hBa.out.drew;refine wp_region_late [] (S:=fun W'=>W'.cell? ⟨t,1,none⟩=some (.pointer (some ⟨A,0,none⟩))∧W'.heap[HB]?=some (.cells #[.int .i64 x1.1,.int .u64 x1.2] 71)) rfl (⟨keep hBd c1,Below.heap' (Below.refl _ _).drew hbx.out⟩) (fun hHeld=>?_)
   try dsimp only at hHeld
   refine tkW 0 ?_;refine tkW 1 ?_;refine tkW 2 ?_;refine tkM 3 ?_ (hz:=by rintro w ⟨e1,e2⟩;obtain ⟨b0,b1,bq,bf0,bf1⟩:=box2 e2;exact zf);refine tkM 4 ?_ (hz:=by rintro w ⟨e1,e2⟩;obtain ⟨b0,b1,bq,bf0,bf1⟩:=box2 e2;exact zf);refine rdM 5 ?_;intro K hK;go_simp;go_at_call 62;refine (hG.out _ hBd).mono ?_;rintro z3 w3 ⟨rfl,hb⟩;have hB3:=hBd.trans (hb.mono hBd.size);have hS1:w3.cell? ⟨t,1,none⟩=some (.pointer (some ⟨A,0,none⟩))∧w3.heap[HB]?=some (.cells #[.int .i64 x1.1,.int .u64 x1.2] 71):=⟨keep hB3 c1,Below.heap' hb (Below.heap' (Below.refl _ _).drew hbx.out)⟩;have hA3:=qh ((((Below.refl w2.heap.size w2).drew).trans hb).trans (Below.refl _ _));clear hb;replace hB3:=qh hB3;go_wp2_with fail;refine hK.out _ _ (fun _ _=>hS1) ?_;clear hHeld hK K;have hHeld:=hS1;clear hS1
   try simp only [Act.put,zs1,zs2,zs3]
   try simp only [Act.put]
   refine tkW 6 ?_;refine tkW 7 ?_;refine tkW 8 ?_;refine tkW 9 ?_;refine tkW 10 ?_;refine wpAnyM_done (by kernel_rfl) ?_ _
   try simp only [Exit.then]
   clear hHeld hBd;have hrH3:=qh ((hrH.out.below hA1.out).below hA3.out);have hrS3:=qh ((hrS.out.below hA1.out).below hA3.out);clear hA1 hA3;obtain ⟨x114,x116,x117,x118⟩:=hcs.out _ hB3.out;have hsr:=qh ((hha.out.below hB3.out).src hcel_len hcel_one (by decide));have hbb:=qh hB3.out.size;go_upto_region 8 with (at_builtin;refine wpList_append_row (f:=hcel) (M:=HH) _ rfl _ _ 77 rfl w.heap.size 71 i1 (.agg #[.int .i64 0,.int .u64 0]) 2 16 Tryz.underlying77 hi1 hyA hyB hyC rfl (by decide) (.slice va LH.length vc) LH rfl hrH3.out _ rfl hsr.out hm1.out hy1.out hbb.out ?_;intro a4 c4 w4 hr4 hu4 ha4;replace hr4:=qh hr4;replace hu4:=qh hu4;replace ha4:=qh ha4);have hB4:=qh (hB3.out.trans (hu4.out.below hB3.out.size (fun b hb=>(hrH3.out.lt b (by simpa using hb)).1)));have hrS4:=qh (hrS3.out.upd hu4.out hdj.out.nin);have hdj4:=qh (hdj.out.left ha4.out hrS3.out.lt);clear x114 x116 x117 x118 hsr hbb hrS3 ha4 hu4 hdj;obtain ⟨x114,x116,x117,x118⟩:=hcs.out _ hB4.out;have hsr:=qh ((hka.out.below hB4.out).src scell_len scell_one (by decide));have hbb:=qh hB4.out.size;go_upto_region 9 with (at_builtin;refine wpList_append_row (f:=scell) (M:=KK) _ rfl _ _ 96 rfl w.heap.size 9 i0 (.string ⟨#[]⟩) 1 16 Tryz.underlying96 hi0 hzA hzB hzC rfl (by decide) (.slice sa LS.length sc) LS rfl hrS4.out _ rfl hsr.out hm2.out hy2.out hbb.out ?_;intro a5 c5 w5 hr5 hu5 ha5;replace hr5:=qh hr5;replace hu5:=qh hu5;replace ha5:=qh ha5);have hB5:=qh (hB4.out.trans (hu5.out.below hB4.out.size (fun b hb=>(hrS4.out.lt b (by simpa using hb)).1)))
   have hrH5:=qh (hr4.out.upd hu5.out hdj4.out.swap.nin);have hdj5:=qh (hdj4.out.swap.left ha5.out hr4.out.lt);clear x114 x116 x117 x118 hsr hbb hr4 hdj4 ha5 hu5;obtain ⟨x114,x116,x117,x118⟩:=hcs.out _ hB5.out;have hwi:IntKind.i64.wrap (((i:Nat):Int)+1)=((i+1:Nat):Int):=by rw [show ((i:Nat):Int)+1=((i+1:Nat):Int) by omega];exact IntWalk.i64_in _ (by omega)
   cases bd
   ·skip
    go_wp2_with fail;go_roundg (N - i)
    case rel =>
     refine ⟨i+1,by omega,by omega,congrArg _ (by omega),?_,?_,hdj5.out.swap,hB5.out⟩
     ·have:=hrH5.out
      rw [hk.out];exact this
     ·have:=hr5.out
      rw [hw.out];simpa using this
    case measure=>omega
   ·skip
    obtain ⟨hm3,hy3⟩:=(hm3 rfl).out;obtain ⟨MM,hMM⟩:∃ MM,MM=LS++KK:=⟨_,rfl⟩;have hml:LS.length+KK.length=MM.length:=by rw [hMM,List.length_append]
    rw [← hMM] at hr5 hm3 hy3 hw;rw [hml] at hr5 hdj5 ⊢;have hA6:=qh ((Below.refl w5.heap.size w5).alloc (Nat.le_refl _) (.cells #[.string hi] 9));have hs6:=qh (SrcOf.one w5 9 [.string hi] (by intro y hy;simp at hy;subst hy;rfl));have hB6:=qh (hB5.out.trans (hA6.out.mono hB5.out.size));have hbb:=qh hB6.out.size;have hr6:=qh (hr5.out.below hA6.out);have hrH6:=qh (hrH5.out.below hA6.out);replace hm3:=qh hm3;replace hy3:=qh hy3;replace hMM:=qh hMM;replace hml:=qh hml
    go_wp2_with (at_builtin;refine wpList_append_row (f:=scell) (M:=[hi]) _ rfl _ _ 96 rfl w.heap.size 9 i0 (.string ⟨#[]⟩) 1 16 Tryz.underlying96 hi0 hzA hzB hzC rfl (by decide) (.slice a5 MM.length c5) MM rfl hr6.out _ rfl hs6.out hm3.out hy3.out hbb.out ?_;intro a7 c7 w7 hr7 hu7 ha7;replace hr7:=qh hr7;replace hu7:=qh hu7;replace ha7:=qh ha7)
    go_roundg (N - i)
    case rel =>
     refine ⟨i+1,by omega,by omega,congrArg _ (by omega),?_,?_,?_,hB6.out.trans (hu7.out.below hB6.out.size (fun b hb=>(hr6.out.lt b (by simpa using hb)).1))⟩
     ·have:=hrH6.out.upd hu7.out hdj5.out.nin
      rw [hk.out];exact this
     ·have:=hr7.out
      rw [hw.out];simpa using this
     ·exact (hdj5.out.left ha7.out hrH6.out.lt).swap
    case measure=>omega
  ·skip
   obtain rfl:i=N:=by omega
   rw [List.take_of_length_le (by rw [hN.out];exact Nat.le_refl _)] at hrH hrS hdj ⊢;rw [hk1.out] at hrH hdj ⊢;have hgS:∀ (k:Nat) (x:Hd×BN Sl),S[k]?=some x→(S.map (·.1))[k]?=some x.1:=fun k x hx=>(by rw [List.getElem?_map,hx];rfl)
   have hsl:(S.map (·.1)).length=S.length:=List.length_map _;obtain ⟨LH,hLH⟩:∃ X,X=S.map (·.1):=⟨_,rfl⟩;rw [← hLH] at hrH hdj hgS hsl ⊢;obtain ⟨LS,hLS⟩:∃ X,X=wants R:=⟨_,rfl⟩;rw [← hLS] at hrS hdj hk2 hk3 ⊢;replace hgS:=qh hgS;obtain ⟨n2,hn2⟩:∃ X,X=LH.length:=⟨_,rfl⟩;rw [← hn2] at hrH hdj hsl ⊢;replace hLH:=qh hLH;replace hLS:=qh hLS;replace hrH:=qh hrH;replace hrS:=qh hrS;replace hn2:=qh hn2;clear hdj;have hsl2:Hid (n2=LS.length+1):=qh (by omega);replace hsl:=qh hsl;replace hk2:=qh hk2;go_wp2_with fail
   go_loopg [63] (n2+1) (fun gk v63 wz=>∃ (k:Nat),gk=n2+1 - k∧k≤n2∧v63=.int .i64 ((k:Nat):Int)∧Row w.heap.size 71 2 hcel wz (.slice va n2 vc) LH∧Row w.heap.size 9 1 scell wz (.slice sa LS.length sc) LS∧Below w.heap.size w wz)
   case atStart=>exact ⟨0,rfl,Nat.zero_le _,rfl,hrH.out,hrS.out,hB⟩
   case round =>
    clear hrH hrS hB;obtain ⟨k,rfl,hkN,rfl,hrH,hrS,hB⟩:=hrel;by_cases hlk:k < n2
    ·skip
     obtain ⟨x,hx⟩:∃ x,S[k]?=some x:=⟨_,List.getElem?_eq_getElem (by have:=hsl.out;omega)⟩;have hxm:=List.mem_of_getElem? hx;obtain ⟨e,nd,_,hbn,_,_,_,hc,hsn,hG⟩:=hEn.out x (hmS.out x hxm);obtain ⟨q,hq⟩:∃ q,q=e.blk:=⟨_,rfl⟩;rw [← hq] at hc hG;have hHi:=qh fun W hW=>hsn.high hc (W:=W) hW
     rw [hbn] at hHi;have hkx:=hk3.out k x hx;obtain ⟨⟨x1,n⟩,rfl⟩:∃ y:Hd×BN Sl,y=x:=⟨x,rfl⟩;simp only at hG hHi hkx
     have hrc:∃ pb,va=some ⟨pb,0,none⟩∧wr.cell? ⟨pb,k*2,none⟩=some (.int .i64 x1.1)∧wr.cell? ⟨pb,k*2+1,none⟩=some (.int .u64 x1.2)∧pb < wr.heap.size∧n2≤vc:=by
      obtain ⟨b',c',ev,_,_,hb2,h5,_,_,hat⟩:=hrH.at (hgS.out k _ hx);injection ev with ev _ ev2;subst ev ev2;exact ⟨b',rfl,hat 0 _ rfl,hat 1 _ rfl,hb2,by rw [hn2.out];exact h5⟩
     obtain ⟨pv,rfl,k0,k1,kl,hNc⟩:=hrc;have hql:q < wr.heap.size:=Nat.lt_of_lt_of_le (heap_lt hc) hB.size;have hilt:((k:Nat):Int) < ((n2:Nat):Int):=by omega
     have hi0z:(0:Int)≤((k:Nat):Int):=by omega
     replace hB:=qh hB;replace hbn:=qh hbn;replace hc:=qh hc;replace hsn:=qh hsn;replace hG:=qh hG;replace hq:=qh hq;replace hx:=qh hx;replace hxm:=qh hxm;replace hrH:=qh hrH;replace hrS:=qh hrS;replace hkx:=qh hkx;go_upto_region 15 with fail;clear k0 k1 kl;have hBa:=hB.out.alloc hB.out.size (.cells #[.int .i64 x1.1,.int .u64 x1.2] 71);have hA1:=qh ((Below.refl wr.heap.size wr).alloc (Nat.le_refl _) (.cells #[.int .i64 x1.1,.int .u64 x1.2] 71));have hbx:(wr.alloc (.cells #[.int .i64 x1.1,.int .u64 x1.2] 71)).heap[wr.heap.size]?=some (.cells #[.int .i64 x1.1,.int .u64 x1.2] 71):=heap_alloc_new _ _;generalize wr.alloc (.cells #[.int .i64 x1.1,.int .u64 x1.2] 71)=w2 at *;obtain ⟨HB,hHB⟩:∃ b,b=wr.heap.size:=⟨_,rfl⟩;rw [← hHB] at hbx ⊢;replace hHB:=qh hHB;replace hBa:=qh hBa;replace hbx:=qh hbx;have hBd:=hBa.out.drew;refine wp_region_late [] (S:=fun W'=>W'.cell? ⟨t,1,none⟩=some (.pointer (some ⟨A,0,none⟩))∧W'.heap[HB]?=some (.cells #[.int .i64 x1.1,.int .u64 x1.2] 71)) rfl (⟨keep hBd c1,Below.heap' (Below.refl _ _).drew hbx.out⟩) (fun hHeld=>?_)
     try dsimp only at hHeld
     refine tkW 0 ?_;refine tkW 1 ?_;refine tkW 2 ?_;refine tkM 3 ?_ (hz:=by rintro w ⟨e1,e2⟩;obtain ⟨b0,b1,bq,bf0,bf1⟩:=box2 e2;exact zf);refine tkM 4 ?_ (hz:=by rintro w ⟨e1,e2⟩;obtain ⟨b0,b1,bq,bf0,bf1⟩:=box2 e2;exact zf);refine rdM 5 ?_;intro K hK;go_simp;go_at_call 62;refine (hG.out _ hBd).mono ?_;rintro z3 w3 ⟨rfl,hb⟩;have hB3:=hBd.trans (hb.mono hBd.size);have hS1:w3.cell? ⟨t,1,none⟩=some (.pointer (some ⟨A,0,none⟩))∧w3.heap[HB]?=some (.cells #[.int .i64 x1.1,.int .u64 x1.2] 71):=⟨keep hB3 c1,Below.heap' hb (Below.heap' (Below.refl _ _).drew hbx.out)⟩;have hA3:=qh ((((Below.refl w2.heap.size w2).drew).trans hb).trans (Below.refl _ _));clear hb;replace hB3:=qh hB3;go_wp2_with fail;refine hK.out _ _ (fun _ _=>hS1) ?_;clear hHeld hK K;have hHeld:=hS1;clear hS1
     try simp only [Act.put,zs1,zs2,zs3]
     try simp only [Act.put]
     refine tkW 6 ?_;refine tkW 7 ?_;refine tkW 8 ?_;refine tkW 9 ?_;refine tkW 10 ?_;refine wpAnyM_done (by kernel_rfl) ?_ _
     try simp only [Exit.then]
     clear hHeld hBd;have hrH3:=qh ((hrH.out.below hA1.out).below hA3.out);have hrS3:=qh ((hrS.out.below hA1.out).below hA3.out);clear hA1 hA3 hrH hrS;go_wp2_with fail;refine (hHi.out _ hB3.out).mono ?_;rintro z4 w4 ⟨hv,rfl,hhv,hb⟩;have hB4:=qh (hB3.out.trans (hb.mono hB3.out.size));have hrH4:=qh (hrH3.out.below hb);have hrS4:=qh (hrS3.out.below hb);clear hb hrH3 hrS3;obtain ⟨bd,hbd⟩:∃ X,X=n.bnd:=⟨_,rfl⟩;rw [← hbd] at hkx hhv ⊢;replace hbd:=qh hbd;have hwi:IntKind.i64.wrap (((k:Nat):Int)+1)=((k+1:Nat):Int):=by rw [show ((k:Nat):Int)+1=((k+1:Nat):Int) by omega];exact IntWalk.i64_in _ (by have:=hsl.out;omega)
     cases bd
     ·skip
      replace hhv:=qh hhv;go_wp2_with fail;go_roundg (n2 - k)
      case rel=>exact ⟨k+1,by omega,by omega,congrArg _ (by omega),hrH4.out,hrS4.out,hB4.out⟩
      case measure=>omega
     ·skip
      have hh:=hhv rfl;have hkk:=hkx.out rfl;rw [← hh] at hkk
      obtain ⟨b9,c9,ev,hrc9⟩:∃ b9 c9,Value.slice sa LS.length sc=.slice (some ⟨b9,0,none⟩) LS.length c9∧(k < LS.length∧LS.length≤c9∧b9 < w4.heap.size∧w4.cell? ⟨b9,k,none⟩=some (.string hv)):=by
       obtain ⟨b',c',ev,_,_,hb2,h5,_,h6,hat⟩:=hrS4.out.at hkk;have h7:=hat 0 _ rfl;rw [Nat.mul_one,Nat.add_zero] at h7;exact ⟨b',c',ev,h6,h5,hb2,h7⟩
      injection ev with ev _ ev2;subst ev ev2;obtain ⟨hkS,hSc,hb9,hk9⟩:=hrc9;have hkS2:((k:Nat):Int) < ((LS.length:Nat):Int):=by omega
      have hge:decide (((LS.length:Nat):Int)≤((k:Nat):Int))=false:=by rw [decide_eq_false_iff_not];omega
      replace hkk:=qh hkk;replace hh:=qh hh;clear hhv;go_wp2_with fail;go_roundg (n2 - k)
      case rel=>exact ⟨k+1,by omega,by omega,congrArg _ (by omega),hrH4.out,hrS4.out,hB4.out⟩
      case measure=>omega
    ·skip
     obtain rfl:k=n2:=by omega
     replace hrH:=qh hrH;replace hrS:=qh hrS;have hle:(((k:Nat):Int) == ((LS.length:Nat):Int)+1)=true:=by rw [beq_iff_eq];have:=hsl2.out;omega
     have hwi:IntKind.i64.wrap (((LS.length:Nat):Int)+1)=((LS.length:Nat):Int)+1:=IntWalk.i64_in _ (by have:=hsl2.out;have:=hsl.out;omega);have hBh:=qh hB;clear hB;go_wp2_with fail
     have hfin:KdE w (S.map (·.1)) (.returned (.tuple #[.slice va k vc,.bool true])) wr:=by
      refine ⟨va,vc,?_,?_,hBh.out⟩
      ·rw [← hLH.out,← hn2.out]
      ·rw [← hLH.out,← hn2.out];exact hrH.out
     exact bodyPost_ret (v:=.tuple #[.slice va k vc,.bool true]) (by simp [results,Tryz.results106,go_sem]) rfl hfin
open Go.Lib
section
variable {α γ:Type}
theorem sum_add2 (l:List α) (f g:α→Nat):(l.map fun x=>f x+g x).sum=(l.map f).sum+(l.map g).sum:=by
 induction l with
 | nil=>rfl
 | cons x l ih=>simp only [List.map_cons,List.sum_cons,ih];omega
theorem sum_zero2 {l:List α} {f:α→Nat} (h:∀ x,x∈l→f x=0):(l.map f).sum=0:=by
 induction l with
 | nil=>rfl
 | cons x l ih=>rw [List.map_cons,List.sum_cons,h x (by simp),ih fun y hy=>h y (by simp [hy])]
theorem sum_congr2 {l:List α} {f g:α→Nat} (h:∀ x,x∈l→f x=g x):(l.map f).sum=(l.map g).sum:=by
 rw [List.map_congr_left h]
theorem sum_comm2 (l:List α) (m:List γ) (f:α→γ→Nat):(l.map fun x=>(m.map fun y=>f x y).sum).sum=(m.map fun y=>(l.map fun x=>f x y).sum).sum:=by
 induction l with
 | nil=>exact (sum_zero2 fun _ _=>rfl).symm
 | cons x l ih =>
  simp only [List.map_cons,List.sum_cons,ih];exact (sum_add2 m _ _).symm
theorem sum_one2:∀ {l:List α} {f:α→Nat} {a:α},l.Nodup→a∈l→(∀ b,b∈l→b≠a→f b=0)→(l.map f).sum=f a
 | [],_,_,_,h,_=>by simp at h
 | x::l,f,a,hn,ha,h0=>by
  rw [List.nodup_cons] at hn;rw [List.map_cons,List.sum_cons];rcases List.mem_cons.1 ha with rfl | h1
  ·rw [sum_zero2 fun y hy=>h0 y (by simp [hy]) fun e=>hn.1 (by rw [← e];exact hy)]
   rfl
  ·rw [h0 x (by simp) fun e=>hn.1 (by rw [e];exact h1),sum_one2 hn.2 h1 fun b hb hne=>h0 b (by simp [hb]) hne,Nat.zero_add]
end
def wsum (g:Ly→Nat) (F:List Ly) (p:Byt):Nat:=(F.map fun y=>if p.isPrefixOf y.pre then g y else 0).sum
section
variable {F:List Ly} {l y:Ly} {C:Cont Str} {k:Str}
theorem wsum_nil (g:Ly→Nat) (F:List Ly):wsum g F []=(F.map g).sum:=by
 unfold wsum
 exact sum_congr2 fun x _=>by simp
theorem mk_ext {a b:Mk} (h:a.s=b.s) (h2:a.c=b.c):a=b:=by
 cases a;cases b;simp only at h h2;rw [h,h2]
theorem MOK.ndF (h:MOK F):F.Nodup:=by
 have:=List.pairwise_map.1 h.pre
 exact this.imp fun hab e=>hab (by rw [e])
theorem MOK.up2 (h:MOK F) (hy:y∈F) (hne:y.pre≠[]):∃ l',l'∈F∧∃ x,x∈content l'.Ls∧x.2.deep=true∧y.pre=l'.pre++ube 8 x.2.m.s:=h.up y hy hne
theorem MOK.desc (h:MOK F) (hl:l∈F):∀ (n:Nat) (y:Ly),y∈F→y.pre.length≤n→l.pre <+: y.pre→y=l∨∃ x,x∈content l.Ls∧x.2.deep=true∧(l.pre++ube 8 x.2.m.s) <+: y.pre:=by
 intro n
 induction n with
 | zero =>
  intro y hy hn hp;have h0:y.pre=[]:=List.eq_nil_of_length_eq_zero (by omega);rw [h0] at hp;exact .inl (h.uniq hy hl (by rw [h0];exact (List.prefix_nil.1 hp).symm))
 | succ n ih =>
  intro y hy hn hp;by_cases he:y.pre=l.pre
  ·exact .inl (h.uniq hy hl he)
  ·have hne:y.pre≠[]:=fun e=>he (by rw [e] at hp;rw [e,List.prefix_nil.1 hp])
   obtain ⟨l',hl',x',hx',hd',e'⟩:=h.up2 hy hne;obtain ⟨a,ha⟩:=h.eights l.pre.length l hl (Nat.le_refl _);obtain ⟨b,hb⟩:=h.eights y.pre.length y hy (Nat.le_refl _);have hlen:=congrArg List.length e';rw [List.length_append,ube_len] at hlen;have hlt:l.pre.length≠y.pre.length:=fun e=>he (hp.eq_of_length e).symm
   have hle:=hp.length_le;have hp':l.pre <+: l'.pre:=List.prefix_of_prefix_length_le hp ⟨_,e'.symm⟩ (by omega);rcases ih l' hl' (by omega) hp' with rfl | ⟨x,hx,hd,hq⟩
   ·exact .inr ⟨x',hx',hd',by rw [e'];exact List.prefix_refl _⟩
   ·exact .inr ⟨x,hx,hd,hq.trans ⟨_,e'.symm⟩⟩
theorem MOK.ndC (h:MOK F) (hl:l∈F):(content l.Ls).Nodup:=by
 have:=h.srt hl
 refine List.Pairwise.imp ?_ this
 intro a b hab e
 rw [e] at hab
 have:=slt_irrefl b.1
 rw [this] at hab
 cases hab
theorem MOK.one2 (h:MOK F) (hl:l∈F) {x z:Str×Sl} (hx:x∈content l.Ls) (hz:z∈content l.Ls) (dx:x.2.deep=true) (dz:z.2.deep=true) {p:Byt} (px:(l.pre++ube 8 x.2.m.s) <+: p) (pz:(l.pre++ube 8 z.2.m.s) <+: p):x=z:=by
 have e1:=List.prefix_of_prefix_length_le px pz (by rw [List.length_append,List.length_append,ube_len,ube_len];exact Nat.le_refl _)
 have e2:=e1.eq_of_length (by rw [List.length_append,List.length_append,ube_len,ube_len])
 have e3:=List.append_cancel_left e2
 obtain ⟨kx,ox⟩:=h.key l hl x hx
 obtain ⟨kz,oz⟩:=h.key l hl z hz
 have e4:x.2.m.s=z.2.m.s:=by
  have:=congrArg be e3
  rwa [ube_be_le (by simpa using ox.m.b.1),ube_be_le (by simpa using oz.m.b.1)] at this
 have e5:x.2.m=z.2.m:=by
  have h1:=(ox.dp dx).1;have h2:=(oz.dp dz).1;exact mk_ext e4 (h1.trans h2.symm)
 have e6:x.1=z.1:=by rw [kx,kz,e5]
 have g1:=(h.cget hl (x:=x.1) (s:=x.2)).2 hx
 have g2:=(h.cget hl (x:=z.1) (s:=z.2)).2 hz
 rw [e6,g2] at g1
 injection g1 with g1
 exact Prod.ext e6 g1.symm
def below (g:Ly→Nat) (F:List Ly) (p:Byt) (x:Str×Sl):Nat:=if x.2.deep then wsum g F (p++ube 8 x.2.m.s) else 0
theorem isPre {a b:Byt}:a.isPrefixOf b=true↔a <+: b:=List.isPrefixOf_iff_prefix
theorem MOK.wsum (h:MOK F) (hl:l∈F) (g:Ly→Nat):M.wsum g F l.pre=g l+((content l.Ls).map (below g F l.pre)).sum:=by
 have hpt:∀ y,y∈F→(if l.pre.isPrefixOf y.pre then g y else 0)=(if y.pre=l.pre then g y else 0)+((content l.Ls).map fun x=>if x.2.deep then (if (l.pre++ube 8 x.2.m.s).isPrefixOf y.pre then g y else 0) else 0).sum:=fun y hy=>by
  by_cases hP:l.pre <+: y.pre
  ·rw [if_pos (isPre.2 hP)]
   by_cases he:y.pre=l.pre
   ·rw [if_pos he,sum_zero2,Nat.add_zero]
    intro x _;split
    ·rw [if_neg]
     intro hq;have:=(isPre.1 hq).length_le;rw [List.length_append,ube_len,he] at this;omega
    ·rfl
   ·rw [if_neg he,Nat.zero_add]
    rcases h.desc hl _ y hy (Nat.le_refl _) hP with rfl | ⟨x,hx,hd,hq⟩
    ·exact absurd rfl he
    ·rw [sum_one2 (h.ndC hl) hx]
     ·rw [hd,if_pos rfl,if_pos (isPre.2 hq)]
     ·intro z hz hne
      split
      ·rename_i dz
       rw [if_neg];intro hq2;exact hne (h.one2 hl hz hx dz hd (isPre.1 hq2) hq)
      ·rfl
  ·rw [if_neg fun e=>hP (isPre.1 e),if_neg fun e=>hP (by rw [e];exact List.prefix_refl _),sum_zero2]
   intro x _;split
   ·rw [if_neg]
    intro hq;exact hP ((List.prefix_append _ _).trans (isPre.1 hq))
   ·rfl
 unfold M.wsum
 rw [sum_congr2 hpt,sum_add2,sum_comm2]
 congr 1
 ·have hn:F.Nodup:=h.ndF
  rw [sum_one2 hn hl fun b hb hne=>if_neg fun e=>hne (h.uniq hb hl e),if_pos rfl]
 ·refine sum_congr2 fun x _=>?_
  unfold below M.wsum;split
  ·rename_i hd
   exact rfl
  ·rename_i hd
   exact sum_zero2 fun y _=>rfl
def belowP (F:List Ly) (p:Byt) (x:Str×Sl):Nat:=if x.2.deep then M.wsum (fun l=>((content l.Ls).map fun x=>if x.2.deep then 0 else 1).sum) F (p++ube 8 x.2.m.s) else 1
def plainN (l:Ly):Nat:=((content l.Ls).map fun x=>if x.2.deep then 0 else 1).sum
theorem MOK.wsumP (h:MOK F) (hl:l∈F):M.wsum plainN F l.pre=((content l.Ls).map (belowP F l.pre)).sum:=by
 rw [h.wsum hl plainN]
 show ((content l.Ls).map fun x=>if x.2.deep then 0 else 1).sum+_=_
 rw [← sum_add2]
 refine sum_congr2 fun x _=>?_
 unfold below belowP
 split
 ·exact Nat.zero_add _
 ·rfl
def keysOf (F:List Ly):List (Str×Str):=F.flatMap fun l=>(content l.Ls).filterMap fun x=>if x.2.deep then none else some (bs (l.pre++sb x.2),x.2.val)
theorem keysOf_len:∀ (F:List Ly),(keysOf F).length=(F.map plainN).sum
 | []=>rfl
 | l::F=>by
  unfold keysOf;rw [List.flatMap_cons,List.length_append];have:=keysOf_len F;unfold keysOf at this;rw [this,List.map_cons,List.sum_cons]
  congr 1
  unfold plainN
  induction content l.Ls with
  | nil=>rfl
  | cons x L ih =>
   rw [List.filterMap_cons,List.map_cons,List.sum_cons]
   cases hd:x.2.deep
   ·simp [hd,ih];omega
   ·simp [hd,ih]
theorem keysOf_mem (h:MCt F C) (p:Str×Str):p∈keysOf F↔p∈C:=by
 obtain ⟨k,v⟩:=p
 rw [h.mem k v]
 unfold keysOf
 rw [List.mem_flatMap]
 constructor
 ·rintro ⟨l,hl,hx⟩
  obtain ⟨x,hx,e⟩:=List.mem_filterMap.1 hx
  cases hd:x.2.deep
  ·rw [hd] at e
   simp only [Bool.false_eq_true,if_false,Option.some.injEq,Prod.mk.injEq] at e;exact ⟨l,hl,x,hx,hd,by rw [← e.1,bl_bs],e.2.symm⟩
  ·rw [hd] at e;simp at e
 ·rintro ⟨l,hl,x,hx,hd,e1,e2⟩
  refine ⟨l,hl,List.mem_filterMap.2 ⟨x,hx,?_⟩⟩;rw [hd];simp only [Bool.false_eq_true,if_false];rw [← e1,bs_bl,e2]
theorem plain_at (h:MOK F) (hl:l∈F) {x:Str×Sl} (hx:x∈content l.Ls) (hd:x.2.deep=false) (hk:bl k=l.pre++sb x.2):∃ j,On F k j l∧x.1=mT (mkAt k j)∧M.cget (content l.Ls) (mT (mkAt k j))=some x.2:=by
 obtain ⟨j,hj⟩:=h.eights _ l hl (Nat.le_refl _)
 obtain ⟨hkx,hs⟩:=h.key l hl x hx
 have e1:l.pre=(bl k).take (8*j):=by rw [hk,List.take_append_of_le_length (by omega),List.take_of_length_le (by omega)]
 have e2:keyAt k j=sb x.2:=by
  show (bl k).drop (8*j)=_
  rw [hk,← hj,List.drop_left]
 have hlt:j=0∨8*j < (bl k).length:=by
  rcases Nat.eq_zero_or_pos j with h0 | h0
  ·exact .inl h0
  ·have hne:l.pre≠[]:=fun hh=>by rw [hh] at hj;simp at hj;omega
   have hc0:=h.cls l hl hne x hx;right;refine Classical.byContradiction fun hh=>hc0 ?_
   have:sb x.2=[]:=by rw [← e2];exact List.drop_eq_nil_iff.2 (by omega)
   have h6:=mk_sb hs hd;rw [this] at h6;rw [← h6];rfl
 have e3:mkAt k j=x.2.m:=by show mkOf (keyAt k j)=_;rw [e2];exact mk_sb hs hd
 refine ⟨j,⟨hl,e1,hlt⟩,by rw [e3];exact hkx,(h.cget hl).2 ?_⟩
 rw [e3,← hkx]
 exact hx
theorem plain_one (h:MOK F) {l':Ly} (hl:l∈F) (hl':l'∈F) {x z:Str×Sl} (hx:x∈content l.Ls) (hz:z∈content l'.Ls) (dx:x.2.deep=false) (dz:z.2.deep=false) (hk:l.pre++sb x.2=l'.pre++sb z.2):l=l'∧x=z:=by
 obtain ⟨i,o1,k1,g1⟩:=plain_at (k:=bs (l.pre++sb x.2)) h hl hx dx (bl_bs _)
 obtain ⟨j,o2,k2,g2⟩:=plain_at (k:=bs (l.pre++sb x.2)) h hl' hz dz (by rw [bl_bs];exact hk)
 generalize bs (l.pre++sb x.2)=k at *
 rcases Nat.lt_trichotomy i j with hij | rfl | hij
 ·obtain ⟨l3,s3,q1,q2,q3⟩:=o2.chain h i hij
  rw [q1.uniq h o1,g1] at q2;injection q2 with q2;rw [q2,q3] at dx
  cases dx
 ·obtain rfl:=o1.uniq h o2
  refine ⟨rfl,Prod.ext (k1.trans k2.symm) ?_⟩;rw [g1] at g2;injection g2
 ·obtain ⟨l3,s3,q1,q2,q3⟩:=o1.chain h j hij
  rw [q1.uniq h o2,g2] at q2;injection q2 with q2;rw [q2,q3] at dz
  cases dz
theorem nd_le {α:Type}:∀ {l m:List α},l.Nodup→(∀ a,a∈l→a∈m)→l.length≤m.length
 | [],_,_,_=>Nat.zero_le _
 | a::l,m,hl,h=>by
  obtain ⟨s,t,rfl⟩:=List.append_of_mem (h a (by simp));rw [List.nodup_cons] at hl
  have:=nd_le (l:=l) (m:=s++t) hl.2 fun b hb=>by
   have h1:=h b (List.mem_cons_of_mem _ hb);simp only [List.mem_append,List.mem_cons] at h1 ⊢;rcases h1 with h1 | rfl | h1
   ·exact .inl h1
   ·exact absurd hb hl.1
   ·exact .inr h1
  simp at this ⊢;omega
theorem nd_fm {α γ:Type} {f:α→Option γ}:∀ {L:List α},L.Nodup→(∀ a b c,a∈L→b∈L→f a=some c→f b=some c→a=b)→(L.filterMap f).Nodup
 | [],_,_=>List.Pairwise.nil
 | x::L,hn,hu=>by
  rw [List.nodup_cons] at hn;have ih:=nd_fm hn.2 fun a b c ha hb=>hu a b c (by simp [ha]) (by simp [hb])
  rw [List.filterMap_cons]
  cases hx:f x with
  | none=>exact ih
  | some c =>
   refine List.nodup_cons.2 ⟨fun hc=>?_,ih⟩;obtain ⟨z,hz,e⟩:=List.mem_filterMap.1 hc;exact hn.1 (by rw [hu x z c (by simp) (by simp [hz]) hx e];exact hz)
theorem nd_flat {α γ:Type} {f:α→List γ}:∀ {L:List α},L.Nodup→(∀ a,a∈L→(f a).Nodup)→(∀ a b c,a∈L→b∈L→c∈f a→c∈f b→a=b)→(L.flatMap f).Nodup
 | [],_,_,_=>List.Pairwise.nil
 | x::L,hn,h1,hu=>by
  rw [List.nodup_cons] at hn;rw [List.flatMap_cons];refine List.nodup_append.2 ⟨h1 x (by simp),nd_flat hn.2 (fun a ha=>h1 a (by simp [ha])) fun a b c ha hb=>hu a b c (by simp [ha]) (by simp [hb]),fun a ha b hb e=>?_⟩;subst e;obtain ⟨z,hz,hzb⟩:=List.mem_flatMap.1 hb;exact hn.1 (by rw [hu x z a (by simp) (by simp [hz]) ha hzb];exact hz)
theorem keysOf_nd (h:MOK F):(keysOf F).Nodup:=by
 have hf:∀ (l:Ly) (x:Str×Sl) (c:Str×Str),(if x.2.deep then none else some (bs (l.pre++sb x.2),x.2.val))=some c→x.2.deep=false∧bl c.1=l.pre++sb x.2:=fun l x c e=>by
  cases hd:x.2.deep
  ·rw [hd] at e
   simp only [Bool.false_eq_true,if_false,Option.some.injEq] at e;rw [← e];exact ⟨rfl,bl_bs _⟩
  ·rw [hd] at e;simp at e
 refine nd_flat h.ndF (fun l hl=>nd_fm (h.ndC hl) fun a b c ha hb e1 e2=>?_) fun l l' c hl hl' h1 h2=>?_
 ·obtain ⟨d1,k1⟩:=hf l a c e1
  obtain ⟨d2,k2⟩:=hf l b c e2;exact (plain_one h hl hl ha hb d1 d2 (k1.symm.trans k2)).2
 ·obtain ⟨x,hx,e1⟩:=List.mem_filterMap.1 h1
  obtain ⟨z,hz,e2⟩:=List.mem_filterMap.1 h2;obtain ⟨d1,k1⟩:=hf l x c e1;obtain ⟨d2,k2⟩:=hf l' z c e2;exact (plain_one h hl hl' hx hz d1 d2 (k1.symm.trans k2)).1
theorem MCt.plainC (h:MOK F) (hc:MCt F C):M.wsum plainN F []=C.length:=by
 rw [wsum_nil,← keysOf_len]
 have h1:=keysOf_nd h
 have h2:C.Nodup:=by
  refine List.Pairwise.imp ?_ hc.srt;intro a b hab e;rw [e,slt_irrefl] at hab
  cases hab
 exact Nat.le_antisymm (nd_le h1 fun a ha=>(keysOf_mem hc a).1 ha) (nd_le h2 fun a ha=>(keysOf_mem hc a).2 ha)
end
open Go.RowKit
theorem row_lit (w:World) (base:Nat) (h:Hd) (hb:base≤w.heap.size):Row base 71 2 hcel (w.alloc (.cells #[.int .i64 h.1,.int .u64 h.2] 71)) (.slice (some ⟨w.heap.size,0,none⟩) 1 1) [h] :=
 ⟨hcel_len,hcel_one,World.ownsRow_lit w #[.int .i64 h.1,.int .u64 h.2] 1 hb (by unfold maxLen;omega) rfl⟩
def SndE (w:World) (a b c:Nat) (e:Ending) (w':World):Prop:=e=.returned (.tuple #[.int .i64 ((a:Nat):Int),.int .i64 ((b:Nat):Int),.int .i64 ((c:Nat):Int),.bool true])∧Below w.heap.size w w'
theorem LFOK.pair {f:LF} (h:LFOK f) {r:Nat} (hr:r < f.n):f.bn.pairs[r]?=some (mT (f.slot r).m,f.slot r):=by
 unfold BN.pairs
 rw [List.getElem?_zip_eq_some]
 exact ⟨h.kget hr,h.vget hr⟩
theorem LFOK.plen {f:LF} (h:LFOK f):f.bn.pairs.length=f.n:=by
 unfold BN.pairs
 rw [List.length_zip,h.klen]
 have:f.bn.vals.length=f.n:=h.len
 rw [this,Nat.min_self]
theorem sum_part {α:Type} (f:α→Nat) {L A:List α} {x:α} (h:∃ B,L=A++x::B):((A++[x]).map f).sum≤(L.map f).sum:=by
 obtain ⟨B,rfl⟩:=h
 simp only [List.map_append,List.map_cons,List.map_nil,List.sum_append,List.sum_cons,List.sum_nil]
 omega
theorem sum_snoc {α:Type} (f:α→Nat) (A:List α) (x:α):((A++[x]).map f).sum=(A.map f).sum+f x:=by simp
theorem cont_take {β:Type} {R:Lev β} {i:Nat} {x:Hd×BN β} (hx:R[i]?=some x):cont (R.take (i+1))=cont (R.take i)++x.2.pairs:=by
 rw [List.take_add_one,hx]
 unfold cont
 simp
theorem cont_at {β:Type} {R:Lev β} {i r:Nat} {x:Hd×BN β} {p:Str×β} (hx:R[i]?=some x) (hp:x.2.pairs[r]?=some p):∃ B,cont R=(cont (R.take i)++x.2.pairs.take r)++p::B:=by
 obtain ⟨h1,h2⟩:=List.getElem?_eq_some_iff.1 hp
 obtain ⟨h3,h4⟩:=List.getElem?_eq_some_iff.1 hx
 refine ⟨x.2.pairs.drop (r+1)++cont (R.drop (i+1)),?_⟩
 have e1:R=R.take i++x::R.drop (i+1):=by rw [← h4,← List.drop_eq_getElem_cons,List.take_append_drop]
 have e2:x.2.pairs=x.2.pairs.take r++p::x.2.pairs.drop (r+1):=by rw [← h2,← List.drop_eq_getElem_cons,List.take_append_drop]
 have e3:cont R=cont (R.take i)++(x.2.pairs++cont (R.drop (i+1))):=by
  conv=>lhs;rw [e1]
  unfold cont;rw [List.flatMap_append,List.flatMap_cons]
 rw [e3]
 conv=>lhs;rw [e2]
 simp
theorem drop_flat {β:Type} {Ls:List (Lev β)} {j:Nat} {R:Lev β} (h:Ls[j]?=some R):(Ls.drop j).flatten.length=(Ls.drop (j+1)).flatten.length+R.length∧(Ls.drop j).flatten.length≤nodes Ls:=by
 obtain ⟨h1,h2⟩:=List.getElem?_eq_some_iff.1 h
 refine ⟨by rw [List.drop_eq_getElem_cons h1,List.flatten_cons,List.length_append,h2];omega,?_⟩
 unfold nodes
 conv=>rhs;rw [← List.take_append_drop j Ls]
 rw [List.flatten_append,List.length_append]
 omega
set_option maxRecDepth 100000 in
set_option maxHeartbeats 3000000 in
theorem MTr.soundW {w0 w : World} {T : TS} {Y : List Ly} {C : Cont Str} {l : Ly} (h : MTr w0 w T Y C) (hl : l ∈ Y) (fN fL fP : Str × Sl → Nat)
    (hRec:∀ W x,x∈content l.Ls→x.2.deep=true→Below w.heap.size w W→Calls Tryz.prog 107 #[.pointer (some ⟨T.t,0,none⟩),slV x.2] W (SndE W (fN x) (fL x) (fP x)))
    (hPl:∀ x,x∈content l.Ls→x.2.deep=false→fN x=0∧fL x=0∧fP x=1)
    (hb1:nodes l.Ls+((content l.Ls).map fN).sum≤1000000000000) (hb2:1+((content l.Ls).map fL).sum≤1000000000000) (hb3:((content l.Ls).map fP).sum≤1000000000000) :
    Calls Tryz.prog 60 #[.pointer (some ⟨T.t,0,none⟩),hV l.r] w (SndE w (nodes l.Ls+((content l.Ls).map fN).sum) (1+((content l.Ls).map fL).sum) ((content l.Ls).map fP).sum):=by
 have c1:=h.am.cells.2.1
 have htw:=h.sane.ok.tow l hl
 obtain ⟨n0,htop⟩:=h.sane.top l hl
 have hl0:0 < l.Ls.length:=by have:=(List.getElem?_eq_some_iff.1 htop).1;omega
 have hEn:=qh fun (x:Hd×BN Sl) (hx:x∈l.Ls.flatten)=>h.node (x:=x) (List.mem_flatMap.2 ⟨l,hl,hx⟩)
 have hRw:Hid (∀ (W:World) (j:Nat) (R:Lev Sl) (a:Option Addr) (c:Nat),Below w.heap.size w W→l.Ls[j]?=some R→Row w.heap.size 71 2 hcel W (.slice a R.length c) (R.map (·.1))→Calls Tryz.prog 105 #[.pointer (some ⟨T.t,0,none⟩),.slice a R.length c] W fun e w'=>e=.returned (.bool true)∧Below W.heap.size W w'):=qh fun W j R a c hW hR hrow=>(h.on (h.am.below hW)).row hl hR hrow
 have hKd:Hid (∀ (W:World) (j:Nat) (S R:Lev Sl) (a:Option Addr) (c:Nat),Below w.heap.size w W→l.Ls[j]?=some S→l.Ls[j+1]?=some R→Row w.heap.size 71 2 hcel W (.slice a R.length c) (R.map (·.1))→Calls Tryz.prog 106 #[.pointer (some ⟨T.t,0,none⟩),.slice a R.length c] W (KdE W (S.map (·.1)))):=qh fun W j S R a c hW hS hR hrow=>(h.on (h.am.below hW)).kids hl hS hR hrow
 have hlf:∀ (j:Nat) (R:Lev Sl),l.Ls[j]?=some R→(∀ x,x∈R→x.2.leaf=decide (j=0))∧0 < R.length:=fun j R hR=>by
  have hok:=htw.ok j R hR;refine ⟨hok.lf,?_⟩
  cases R with
  | nil=>have:=hok.seg;simp [Seg] at this
  | cons x R=>simp
 have hkey:=h.sane.ok.key l hl
 obtain ⟨R0,hR0⟩:∃ R,l.Ls[0]?=some R:=⟨_,List.getElem?_eq_getElem hl0⟩
 have hcon:content l.Ls=cont R0:=content_of hR0
 rw [hcon] at hRec hPl hb1 hb2 hb3 hkey ⊢
 have hlen:∀ (k:Nat) (Q:Lev Sl),l.Ls[k]?=some Q→Q.length≤20000:=fun k Q hQ=>by
  obtain ⟨X,Z,e1,_⟩:=lev_set (S':=[]) hQ;have:=h.sane.nod l hl;unfold nodes at this;rw [e1] at this;simp at this;omega
 have hmf:∀ (j:Nat) (R:Lev Sl),l.Ls[j]?=some R→∀ x,x∈R→x∈l.Ls.flatten:=fun j R hR x hx=>mem_flat hR hx
 obtain ⟨A,hA⟩:∃ a,a=T.d.A.a:=⟨_,rfl⟩
 rw [← hA] at c1 hEn
 obtain ⟨t,ht⟩:∃ t,t=T.t:=⟨_,rfl⟩
 rw [← ht] at c1 hRw hKd hRec ⊢
 have htl:=block_lt_of_cell c1
 clear h hl htw hcon
 obtain ⟨⟨pre,Ls,r1⟩,rfl⟩:∃ y:Ly,y=l:=⟨l,rfl⟩
 simp only at htop hl0 hEn hRw hKd hlf hkey hR0 hRec hPl hb1 hb2 hb3 hlen hmf ⊢
 have hst:=qh (row_lit (w.alloc (.cells #[.int .i64 r1.1,.int .u64 r1.2] 71)) w.heap.size r1 (Below.alloc (Below.refl w.heap.size w) (Nat.le_refl _) _).size)
 have hstB:=qh (((Below.refl w.heap.size w).alloc (Nat.le_refl _) (.cells #[.int .i64 r1.1,.int .u64 r1.2] 71)).alloc (Below.alloc (Below.refl w.heap.size w) (Nat.le_refl _) _).size (.cells #[.int .i64 r1.1,.int .u64 r1.2] 71))
 replace hA:=qh hA
 replace ht:=qh ht
 replace hR0:=qh hR0
 replace hRec:=qh hRec
 replace hPl:=qh hPl
 replace hb1:=qh hb1
 replace hb2:=qh hb2
 replace hb3:=qh hb3
 replace hlen:=qh hlen
 replace hmf:=qh hmf
 replace hlf:=qh hlf
 replace hkey:=qh hkey
 replace htop:=qh htop
 unfold hV at hEn ⊢
 unfold slV at hRec
 go_enter Tryz.func60,Tryz.ntmps60
 go_wp2_with fail
 go_loopg [8,4,6] Ls.length (fun gk v8 v4 v6 wr=>∃ (j:Nat) (R:Lev Sl) (ra:Option Addr) (rc:Nat),gk=j+1∧Ls[j]?=some R∧v8=.slice ra R.length rc∧v6=.int .i64 0∧v4=.int .i64 (((Ls.drop (j+1)).flatten.length:Nat):Int)∧Row w.heap.size 71 2 hcel wr (.slice ra R.length rc) (R.map (·.1))∧Below w.heap.size w wr)
 case atStart =>
  refine ⟨Ls.length - 1,[(r1,n0)],some ⟨w.heap.size+1,0,none⟩,1,by omega,htop.out,rfl,rfl,?_,(by have:=hst.out;rw [World.size_alloc] at this;exact this),hstB.out⟩;rw [List.drop_eq_nil_of_le (by omega)];rfl
 case round =>
  clear hst hstB htop;obtain ⟨j,R,ra,rc,rfl,hR,rfl,rfl,rfl,hrow,hB⟩:=hrel;have hRlen:=hlen.out _ _ hR;obtain ⟨hdf,hdn⟩:=drop_flat hR;obtain ⟨hRlf,hR0l⟩:=hlf.out _ _ hR;have hdn2:(Ls.drop j).flatten.length≤1000000000000:=by have:=hb1.out;omega
  have hwd:IntKind.i64.wrap ((((Ls.drop (j+1)).flatten.length:Nat):Int)+((R.length:Nat):Int))=(((Ls.drop j).flatten.length:Nat):Int):=by rw [hdf,Int.natCast_add];exact IntWalk.i64_in _ (by omega)
  have hRW1:=qh (hRw.out wr j R ra rc hB hR hrow);obtain ⟨x,hx⟩:∃ x,R[0]?=some x:=⟨_,List.getElem?_eq_getElem hR0l⟩;have hxm:=List.mem_of_getElem? hx;obtain ⟨e,nd,_,hbn,_,_,_,hc,hsn,hG⟩:=hEn.out x (hmf.out j R hR x hxm);obtain ⟨q,hq⟩:∃ q,q=e.blk:=⟨_,rfl⟩;rw [← hq] at hc hG
  have hlow:Hid (∀ W,Below w.heap.size w W→W.cell? ⟨q,1,none⟩=some (.bool (decide (j=0)))):=qh fun W hW=>by
   have:=hsn.low hc;rw [hbn,hRlf x hxm] at this;exact keep hW this
  have hrc:∃ pb,ra=some ⟨pb,0,none⟩∧(∀ W,Row w.heap.size 71 2 hcel W (.slice ra R.length rc) (R.map (·.1))→W.cell? ⟨pb,0,none⟩=some (.int .i64 x.1.1)∧W.cell? ⟨pb,1,none⟩=some (.int .u64 x.1.2)∧pb < W.heap.size)∧R.length≤rc:=by
   obtain ⟨b',c',ev,_,_,hb2,h5,_,_,hat⟩:=hrow.at (i:=0) (x:=x.1) (by rw [List.getElem?_map,hx];rfl);injection ev with ev _ ev2;subst ev ev2;refine ⟨b',rfl,fun W hW=>?_,by rw [List.length_map] at h5;exact h5⟩;obtain ⟨b2,c2,ev,_,_,hb3,h6,_,_,hat2⟩:=hW.at (i:=0) (x:=x.1) (by rw [List.getElem?_map,hx];rfl);injection ev with ev;injection ev with ev;injection ev with ev;subst ev;exact ⟨by have:=hat2 0 _ rfl;simpa using this,by have:=hat2 1 _ rfl;simpa using this,hb3⟩
  obtain ⟨pa,rfl,hpa,hNc⟩:=hrc;obtain ⟨⟨x1,n⟩,rfl⟩:∃ y:Hd×BN Sl,y=x:=⟨x,rfl⟩;simp only at hG hpa hbn;obtain ⟨nd1,hnd1⟩:∃ m,m=(Ls.drop (j+1)).flatten.length:=⟨_,rfl⟩;obtain ⟨nd2,hnd2⟩:∃ m,m=(Ls.drop j).flatten.length:=⟨_,rfl⟩;rw [← hnd1] at hwd hdf ⊢;rw [← hnd2] at hwd hdn hdn2 hdf;obtain ⟨N,hN⟩:∃ m,m=R.length:=⟨_,rfl⟩;rw [← hN] at hR0l hRW1 hrow hwd hdf hNc hpa hRlen ⊢;replace hrow:=qh hrow;replace hB:=qh hB;replace hc:=qh hc;replace hsn:=qh hsn;replace hG:=qh hG;replace hq:=qh hq;replace hx:=qh hx;replace hxm:=qh hxm;replace hbn:=qh hbn;replace hR:=qh hR;replace hpa:=qh hpa;replace hnd1:=qh hnd1;replace hnd2:=qh hnd2;replace hdf:=qh hdf;replace hRlf:=qh hRlf;replace hN:=qh hN;have hN0:(0:Int) < ((N:Nat):Int):=by omega
  go_wp2_with fail;refine hRW1.out.mono ?_;rintro z1 w1 ⟨rfl,hb⟩;have hB1:=qh (hB.out.trans (hb.mono hB.out.size));have hr1:=qh (hrow.out.below hb);clear hb hRW1;obtain ⟨k0,k1,kl⟩:=hpa.out _ hr1.out;go_upto_region 5 with fail;have hBd:=hB1.out.drew;refine wp_region_late [] (S:=fun W'=>W'.cell? ⟨t,1,none⟩=some (.pointer (some ⟨A,0,none⟩))∧W'.cell? ⟨pa,0,none⟩=some (.int .i64 x1.1)∧W'.cell? ⟨pa,1,none⟩=some (.int .u64 x1.2)) rfl (⟨keep hBd c1,keep (Below.refl _ _).drew k0,keep (Below.refl _ _).drew k1⟩) (fun hHeld=>?_)
  try dsimp only at hHeld
  refine tkW 0 ?_;refine tkW 1 ?_;refine tkW 2 ?_;refine tkM 3 ?_ (hz:=by rintro w ⟨e1,e2,e3⟩;exact zf);refine tkW 4 ?_;refine tkW 5 ?_;refine tkM 6 ?_ (hz:=by rintro w ⟨e1,e2,e3⟩;exact zf);refine rdM 7 ?_;intro K hK;go_simp;go_at_call 62;refine (hG.out _ hBd).mono ?_;rintro z3 w3 ⟨rfl,hb⟩;have hB3:=hBd.trans (hb.mono hBd.size);have hr3:=qh ((hr1.out.below (Below.refl _ _).drew).below hb);obtain ⟨l0,l1,_⟩:=hpa.out _ hr3.out;have hS1:w3.cell? ⟨t,1,none⟩=some (.pointer (some ⟨A,0,none⟩))∧w3.cell? ⟨pa,0,none⟩=some (.int .i64 x1.1)∧w3.cell? ⟨pa,1,none⟩=some (.int .u64 x1.2):=⟨keep hB3 c1,l0,l1⟩;clear hb l0 l1;replace hB3:=qh hB3;go_wp2_with fail;refine hK.out _ _ (fun _ _=>hS1) ?_;clear hHeld hK K;have hHeld:=hS1;clear hS1
  try simp only [Act.put,zs1,zs2,zs3]
  try simp only [Act.put]
  refine tkW 8 ?_;refine tkW 9 ?_;refine tkW 10 ?_;refine tkW 11 ?_;refine tkW 12 ?_;refine wpAnyM_done (by kernel_rfl) ?_ _
  try simp only [Exit.then]
  clear hHeld hBd k0 k1 kl hr1 hB1;have y1:=hlow.out _ hB3.out;have hql:=block_lt_of_cell y1;rcases j with _ | j
  ·skip
   simp only [decide_true] at y1;obtain rfl:R0=R:=by have:=hR.out;rw [hR0.out] at this;injection this
   have hdf0:nd2=nodes Ls:=hnd2.out;rw [← hdf0] at hdn;have hb1b:nd2+((cont R0).map fN).sum≤1000000000000:=by rw [hdf0];exact hb1.out
   have hlfF:∀ x,x∈R0→x.2.leaf=true:=fun x hx=>by have:=hRlf.out x hx;simpa using this
   replace hdf0:=qh hdf0;replace hb1b:=qh hb1b;replace hlfF:=qh hlfF;clear hdf hRlf hR0l hwd hpa hRw hKd hlow hG hsn hc hbn hxm hx;go_wp2_with fail;clear y1 hql hq
   go_loopg [57,4,5,6] (N+1) (fun gk v57 v4 v5 v6 wz=>∃ (i:Nat),gk=N+1 - i∧i≤N∧v57=.int .i64 ((i:Nat):Int)∧v4=.int .i64 ((nd2+((cont (R0.take i)).map fN).sum:Nat):Int)∧v5=.int .i64 ((1+((cont (R0.take i)).map fL).sum:Nat):Int)∧v6=.int .i64 ((((cont (R0.take i)).map fP).sum:Nat):Int)∧Row w.heap.size 71 2 hcel wz (.slice (some ⟨pa,0,none⟩) N rc) (R0.map (·.1))∧Below w.heap.size w wz)
   case atStart=>exact ⟨0,rfl,Nat.zero_le _,rfl,rfl,rfl,rfl,hr3.out,hB3.out⟩
   case round =>
    clear hr3 hB3 hB hrow;obtain ⟨i,rfl,hiN,rfl,rfl,rfl,rfl,hrow,hB⟩:=hrel;by_cases hlt:i < N
    ·skip
     obtain ⟨x,hx⟩:∃ x,R0[i]?=some x:=⟨_,List.getElem?_eq_getElem (by rw [← hN.out];exact hlt)⟩;have hxm:=List.mem_of_getElem? hx;obtain ⟨e,nd,_,hbn,_,_,_,hc,hsn,hG⟩:=hEn.out x (hmf.out 0 R0 hR0.out x hxm);obtain ⟨q,hq⟩:∃ q,q=e.blk:=⟨_,rfl⟩;rw [← hq] at hc hG
     have hfx:∃ f:LF,x.2=f.bn∧LFOK f∧w.heap[q]?=some (.cells (.int .u64 e.gen::(Value.bool true::(lfc f++zic))).toArray 192):=by
      rcases hsn.cases with ⟨f,s1,s2,s3,s4⟩ | ⟨s1,s2,s3,ic,B,s4,s5⟩
      ·exact ⟨f,by rw [← hbn,s1],s3,by rw [← s4];exact hc⟩
      ·rw [hbn,hlfF.out x hxm] at s1;cases s1
     obtain ⟨f,hxf,hf,hcf⟩:=hfx;have hrg:=(LfAt.of (rng1 hcf)).leaf;have hll:=lfc_len hf.S;have hfn:=hf.n;have hLn:=qh fun W=>lfLen_any f hf W
     have hAt:=qh fun r (hr:r≤f.n) W=>lfAt_any f hf r hr W
     have hPr:=qh fun r (hr:r < f.n)=>hf.pair hr
     have hPl2:=hf.plen;have hct:=cont_take hx;rw [hxf] at hct
     have hcA:Hid (∀ r (hr:r < f.n),∃ B,cont R0=(cont (R0.take i)++f.bn.pairs.take r)++(mT (f.slot r).m,f.slot r)::B):=qh fun r hr=>by
      have:=cont_at (r:=r) hx (by rw [hxf];exact hf.pair hr);rw [hxf] at this;exact this
     have hrc:∃ pb,wr.cell? ⟨pb,i*2,none⟩=some (.int .i64 x.1.1)∧wr.cell? ⟨pb,i*2+1,none⟩=some (.int .u64 x.1.2)∧pb < wr.heap.size∧N≤rc∧pb=pa:=by
      obtain ⟨b',c',ev,_,_,hb2,h5,_,_,hat⟩:=hrow.at (i:=i) (x:=x.1) (by rw [List.getElem?_map,hx];rfl);injection ev with ev _ ev2;injection ev with ev;injection ev with ev;subst ev ev2;exact ⟨_,hat 0 _ rfl,hat 1 _ rfl,hb2,by rw [List.length_map] at h5;rw [hN.out];exact h5,rfl⟩
     obtain ⟨pb,k0,k1,kl,hNc2,rfl⟩:=hrc;have hql:q < wr.heap.size:=Nat.lt_of_lt_of_le (heap_lt hc) hB.size;have hilt:((i:Nat):Int) < ((N:Nat):Int):=by omega
     have hi0z:(0:Int)≤((i:Nat):Int):=by omega
     obtain ⟨⟨x1,n⟩,rfl⟩:∃ y:Hd×BN Sl,y=x:=⟨x,rfl⟩;simp only at hG hxf;unfold lfV at hLn hAt;unfold slV at hAt;obtain ⟨cs,hcs⟩:∃ cs,cs=lfc f:=⟨_,rfl⟩;rw [← hcs] at hll hrg hLn hAt;obtain ⟨D,hD⟩:∃ D,D=cont (R0.take i):=⟨_,rfl⟩;rw [← hD] at hct hcA ⊢;obtain ⟨fn,hfn2⟩:∃ m,m=f.n:=⟨_,rfl⟩;rw [← hfn2] at hfn hLn hAt hPr hPl2 hcA;have hwi:IntKind.i64.wrap (((i:Nat):Int)+1)=((i+1:Nat):Int):=by rw [show ((i:Nat):Int)+1=((i+1:Nat):Int) by omega];exact IntWalk.i64_in _ (by omega)
     replace hB:=qh hB;replace hbn:=qh hbn;replace hc:=qh hc;replace hsn:=qh hsn;replace hG:=qh hG;replace hq:=qh hq;replace hx:=qh hx;replace hxm:=qh hxm;replace hrow:=qh hrow;replace hct:=qh hct;replace hPl2:=qh hPl2;replace hxf:=qh hxf;replace hf:=qh hf;replace hcf:=qh hcf;replace hrg:=qh hrg;replace hll:=qh hll;replace hcs:=qh hcs;replace hD:=qh hD;replace hfn2:=qh hfn2;replace hNc2:=qh hNc2;go_upto_region 14 with fail;clear k0 k1 kl;have hBa:=hB.out.alloc hB.out.size (.cells #[.int .i64 x1.1,.int .u64 x1.2] 71);have hA1:=qh ((Below.refl wr.heap.size wr).alloc (Nat.le_refl _) (.cells #[.int .i64 x1.1,.int .u64 x1.2] 71));have hbx:(wr.alloc (.cells #[.int .i64 x1.1,.int .u64 x1.2] 71)).heap[wr.heap.size]?=some (.cells #[.int .i64 x1.1,.int .u64 x1.2] 71):=heap_alloc_new _ _;generalize wr.alloc (.cells #[.int .i64 x1.1,.int .u64 x1.2] 71)=w2 at *;obtain ⟨HB,hHB⟩:∃ b,b=wr.heap.size:=⟨_,rfl⟩;rw [← hHB] at hbx ⊢;replace hHB:=qh hHB;replace hBa:=qh hBa;replace hbx:=qh hbx;have hBd:=hBa.out.drew;refine wp_region_late [] (S:=fun W'=>W'.cell? ⟨t,1,none⟩=some (.pointer (some ⟨A,0,none⟩))∧W'.heap[HB]?=some (.cells #[.int .i64 x1.1,.int .u64 x1.2] 71)) rfl (⟨keep hBd c1,Below.heap' (Below.refl _ _).drew hbx.out⟩) (fun hHeld=>?_)
     try dsimp only at hHeld
     refine tkW 0 ?_;refine tkW 1 ?_;refine tkW 2 ?_;refine tkM 3 ?_ (hz:=by rintro w ⟨e1,e2⟩;obtain ⟨b0,b1,bq,bf0,bf1⟩:=box2 e2;exact zf);refine tkM 4 ?_ (hz:=by rintro w ⟨e1,e2⟩;obtain ⟨b0,b1,bq,bf0,bf1⟩:=box2 e2;exact zf);refine rdM 5 ?_;intro K hK;go_simp;go_at_call 62;refine (hG.out _ hBd).mono ?_;rintro z3 w3 ⟨rfl,hb⟩;have hB3:=hBd.trans (hb.mono hBd.size);have hS1:w3.cell? ⟨t,1,none⟩=some (.pointer (some ⟨A,0,none⟩))∧w3.heap[HB]?=some (.cells #[.int .i64 x1.1,.int .u64 x1.2] 71):=⟨keep hB3 c1,Below.heap' hb (Below.heap' (Below.refl _ _).drew hbx.out)⟩;have hA3:=qh ((((Below.refl w2.heap.size w2).drew).trans hb).trans (Below.refl _ _));clear hb;replace hB3:=qh hB3;go_wp2_with fail;refine hK.out _ _ (fun _ _=>hS1) ?_;clear hHeld hK K;have hHeld:=hS1;clear hS1
     try simp only [Act.put,zs1,zs2,zs3]
     try simp only [Act.put]
     refine tkW 6 ?_;refine tkW 7 ?_;refine tkW 8 ?_;refine tkW 9 ?_;refine tkW 10 ?_;refine wpAnyM_done (by kernel_rfl) ?_ _
     try simp only [Exit.then]
     clear hHeld hBd;have hr3:=qh ((hrow.out.below hA1.out).below hA3.out);have hql3:q < w3.heap.size:=Nat.lt_of_lt_of_le (heap_lt hcf.out) hB3.out.size;clear hA1 hA3 hrow;have hrg3:=qh (rng_below hrg.out hB3.out)
     go_wp2_with (refine wpList_load_mid rfl 95 (.tmp 72) rfl q 2 (by rfl) cs _ hrg3.out Tryz.underlying95 rfl (by rw [hll.out];kernel_rfl) ?_)
     refine (hLn.out _).mono ?_;rintro z4 w4 ⟨rfl,hb⟩;have hB4:=qh (hB3.out.trans (hb.mono hB3.out.size));have hr4:=qh (hr3.out.below hb);clear hb hr3 hrg3 hql3;go_wp2_with fail
     go_loopg [75,4,5,6] (fn+1) (fun gk v75 v4 v5 v6 wy=>∃ (r:Nat),gk=fn+1 - r∧r≤fn∧v75=.int .i64 ((r:Nat):Int)∧v4=.int .i64 ((nd2+((D++f.bn.pairs.take r).map fN).sum:Nat):Int)∧v5=.int .i64 ((1+((D++f.bn.pairs.take r).map fL).sum:Nat):Int)∧v6=.int .i64 ((((D++f.bn.pairs.take r).map fP).sum:Nat):Int)∧Row w.heap.size 71 2 hcel wy (.slice (some ⟨pb,0,none⟩) N rc) (R0.map (·.1))∧Below w.heap.size w wy)
     case atStart =>
      refine ⟨0,rfl,Nat.zero_le _,rfl,?_,?_,?_,hr4.out,hB4.out⟩ <;> rw [List.take_zero,List.append_nil] <;> first | rfl | exact congrArg _ (by omega)
     case round =>
      clear hr4 hB4;obtain ⟨r,rfl,hrn,rfl,rfl,rfl,rfl,hrow,hB5⟩:=hrel;by_cases hrl:r < fn
      ·skip
       obtain ⟨B9,hB9⟩:=hcA.out r hrl;have hpr:=hPr.out r hrl;have hAt1:=qh (hAt.out r (Nat.le_of_lt hrl));rw [decide_eq_true hrl] at hAt1;obtain ⟨s,hs⟩:∃ s,s=f.slot r:=⟨_,rfl⟩;rw [← hs] at hB9 hpr hAt1;have htk:f.bn.pairs.take (r+1)=f.bn.pairs.take r++[(mT s.m,s)]:=by rw [List.take_add_one,hpr];rfl
       obtain ⟨E,hE⟩:∃ E,E=D++f.bn.pairs.take r:=⟨_,rfl⟩;have hE2:D++f.bn.pairs.take (r+1)=E++[(mT s.m,s)]:=by rw [htk,← List.append_assoc,← hE]
       rw [← hE] at hB9 ⊢;obtain ⟨p,hp⟩:∃ p:Str×Sl,p=(mT s.m,s):=⟨_,rfl⟩;rw [← hp] at hE2 hB9;have hpm:p∈cont R0:=by rw [hB9];simp
       have hsN:=sum_part fN ⟨B9,hB9⟩;have hsL:=sum_part fL ⟨B9,hB9⟩;have hsP:=sum_part fP ⟨B9,hB9⟩;rw [sum_snoc] at hsN hsL hsP;have hps:p.2=s:=by rw [hp]
       have hRc:=fun W hd hW=>hRec.out W p hpm hd hW
       have hPp:=fun hd=>hPl.out p hpm hd
       rw [hps] at hRc hPp;have hb1c:=hb1b.out;have hb2c:=hb2.out;have hb3c:=hb3.out;obtain ⟨sN,hsN1⟩:∃ m,m=(E.map fN).sum:=⟨_,rfl⟩;obtain ⟨sL,hsL1⟩:∃ m,m=(E.map fL).sum:=⟨_,rfl⟩;obtain ⟨sP,hsP1⟩:∃ m,m=(E.map fP).sum:=⟨_,rfl⟩;rw [← hsN1] at hsN ⊢;rw [← hsL1] at hsL ⊢;rw [← hsP1] at hsP ⊢;obtain ⟨pN,hpN⟩:∃ m,m=fN p:=⟨_,rfl⟩;obtain ⟨pL,hpL⟩:∃ m,m=fL p:=⟨_,rfl⟩;obtain ⟨pP,hpP⟩:∃ m,m=fP p:=⟨_,rfl⟩;rw [← hpN] at hsN hRc hPp;rw [← hpL] at hsL hRc hPp;rw [← hpP] at hsP hRc hPp;have hql5:q < wr.heap.size:=Nat.lt_of_lt_of_le (heap_lt hcf.out) hB5.size;have hrg5:=qh (rng_below hrg.out hB5);replace hB5:=qh hB5;replace hrow:=qh hrow;have hiN2:IntKind.i64.wrap (((nd2:Nat):Int)+((sN:Nat):Int)+((pN:Nat):Int))=((nd2:Nat):Int)+((sN:Nat):Int)+((pN:Nat):Int):=IntWalk.i64_in _ (by omega);have hiL2:IntKind.i64.wrap (1+((sL:Nat):Int)+((pL:Nat):Int))=1+((sL:Nat):Int)+((pL:Nat):Int):=IntWalk.i64_in _ (by omega);have hiP2:IntKind.i64.wrap (((sP:Nat):Int)+((pP:Nat):Int))=((sP:Nat):Int)+((pP:Nat):Int):=IntWalk.i64_in _ (by omega);have hwr:IntKind.i64.wrap (((r:Nat):Int)+1)=((r+1:Nat):Int):=by rw [show ((r:Nat):Int)+1=((r+1:Nat):Int) by omega];exact IntWalk.i64_in _ (by omega)
       have hgN:nd2+((D++f.bn.pairs.take (r+1)).map fN).sum=nd2+sN+pN:=by rw [hE2,sum_snoc,← hsN1,← hpN];omega
       have hgL:1+((D++f.bn.pairs.take (r+1)).map fL).sum=1+sL+pL:=by rw [hE2,sum_snoc,← hsL1,← hpL];omega
       have hgP:((D++f.bn.pairs.take (r+1)).map fP).sum=sP+pP:=by rw [hE2,sum_snoc,← hsP1,← hpP]
       replace hB9:=qh hB9;replace hpr:=qh hpr;replace hs:=qh hs;replace htk:=qh htk;replace hE:=qh hE;replace hE2:=qh hE2;replace hp:=qh hp;replace hpm:=qh hpm;replace hsN:=qh hsN;replace hsL:=qh hsL;replace hsP:=qh hsP;replace hps:=qh hps;replace hRc:=qh hRc;replace hPp:=qh hPp;replace hb1c:=qh hb1c;replace hb2c:=qh hb2c;replace hb3c:=qh hb3c;replace hsN1:=qh hsN1;replace hsL1:=qh hsL1;replace hsP1:=qh hsP1;replace hpN:=qh hpN;replace hpL:=qh hpL;replace hpP:=qh hpP;replace hgN:=qh hgN;replace hgL:=qh hgL;replace hgP:=qh hgP
       go_wp2_with (refine wpList_load_mid rfl 95 (.tmp 81) rfl q 2 (by rfl) cs _ hrg5.out Tryz.underlying95 rfl (by rw [hll.out];kernel_rfl) ?_)
       refine (hAt1.out _).mono ?_;rintro z5 w5 ⟨rfl,hb⟩;have hB6:=qh (hB5.out.trans (hb.mono hB5.out.size));have hr6:=qh (hrow.out.below hb);clear hb hrg5 hql5;have hA7:=qh ((Below.refl w5.heap.size w5).alloc (Nat.le_refl _) (.cells #[.int .u64 ((s.m.s:Nat):Int),.int .u8 ((s.m.c:Nat):Int),.string s.rest,.string s.val,.bool s.deep,.int .i64 s.link.1,.int .u64 s.link.2] 92));have hB7:=qh (hB6.out.trans (hA7.out.mono hB6.out.size));have hr7:=qh (hr6.out.below hA7.out);obtain ⟨dp,hdp⟩:∃ b,b=s.deep:=⟨_,rfl⟩;rw [← hdp] at hA7 hB7 hr7 hRc hPp ⊢;replace hdp:=qh hdp
       cases dp
       ·skip
        obtain ⟨q1,q2,q3⟩:=hPp.out rfl
        skip
        have hw6:IntKind.i64.wrap (((sP:Nat):Int)+1)=((sP:Nat):Int)+1:=by have:=hiP2;rw [q3] at this;exact this
        go_wp2_with fail;go_roundg (fn - r)
        case rel =>
         refine ⟨r+1,by omega,by omega,congrArg _ (by omega),?_,?_,?_,hr7.out,hB7.out⟩
         ·rw [hgN.out,q1,Nat.add_zero];first | rfl | exact congrArg _ (by omega)
         ·rw [hgL.out,q2,Nat.add_zero];first | rfl | exact congrArg _ (by omega)
         ·rw [hgP.out,q3];first | rfl | exact congrArg _ (by omega)
        case measure=>omega
       ·skip
        go_wp2_with fail;refine (hRc.out _ trivial hB7.out).mono ?_;rintro z8 w8 ⟨rfl,hb⟩;have hB8:=qh (hB7.out.trans (hb.mono hB7.out.size));have hr8:=qh (hr7.out.below hb);clear hb;go_wp2_with fail;go_roundg (fn - r)
        case rel =>
         refine ⟨r+1,by omega,by omega,congrArg _ (by omega),?_,?_,?_,hr8.out,hB8.out⟩
         ·rw [hgN.out];first | rfl | exact congrArg _ (by omega)
         ·rw [hgL.out];first | rfl | exact congrArg _ (by omega)
         ·rw [hgP.out];first | rfl | exact congrArg _ (by omega)
        case measure=>omega
      ·skip
       obtain rfl:r=fn:=by omega
       rw [List.take_of_length_le (by rw [hPl2.out];exact Nat.le_refl _),← hct.out];replace hB5:=qh hB5;replace hrow:=qh hrow;go_wp2_with fail;go_roundg (N - i)
       case rel=>exact ⟨i+1,by omega,by omega,congrArg _ (by omega),rfl,rfl,rfl,hrow.out,hB5.out⟩
       case measure=>omega
    ·skip
     obtain rfl:i=N:=by omega
     rw [List.take_of_length_le (by rw [hN.out];exact Nat.le_refl _)];have hBh:=qh hB;clear hB;go_wp2_with fail;exact bodyPost_ret (v:=.tuple #[.int .i64 ((nd2+((cont R0).map fN).sum:Nat):Int),.int .i64 ((1+((cont R0).map fL).sum:Nat):Int),.int .i64 ((((cont R0).map fP).sum:Nat):Int),.bool true]) (by simp [results,Tryz.results60,go_sem]) rfl ⟨by rw [hdf0.out],hBh.out⟩
  ·skip
   have hjd:decide (j+1=0)=false:=by simp
   rw [hjd] at y1;obtain ⟨S,hS⟩:∃ S,Ls[j]?=some S:=⟨_,List.getElem?_eq_getElem (by have:=(List.getElem?_eq_some_iff.1 hR.out).1;omega)⟩;have hr3b:=hr3.out;rw [hN.out] at hr3b;have hK1:=qh (hKd.out w3 j S R _ rc hB3.out hS hR.out hr3b);clear hr3b;rw [← hN.out] at hK1;replace hS:=qh hS;go_wp2_with fail;refine hK1.out.mono ?_;rintro z4 w4 ⟨a4,c4,rfl,hr4,hb⟩;rw [List.length_map] at hr4 ⊢;have hB4:=qh (hB3.out.trans (hb.mono hB3.out.size));replace hr4:=qh (hr4.rebase fun b hb=>Nat.le_trans hB3.out.size (hr4.lt b hb).1);clear hb;go_wp2_with fail;go_roundg (j+1)
   case rel =>
    exact ⟨j,S,a4,c4,rfl,hS.out,rfl,rfl,congrArg _ (congrArg _ hnd2.out),hr4.out,hB4.out⟩
   case measure=>omega
open Go.RowKit
theorem wsum_le (g:Ly→Nat) (F:List Ly) (p:Byt):wsum g F p≤(F.map g).sum:=by
 unfold wsum
 induction F with
 | nil=>exact Nat.le_refl _
 | cons y F ih =>
  simp only [List.map_cons,List.sum_cons];split <;> omega
theorem flat_len2 (F:List Ly):(F.map fun l=>nodes l.Ls).sum=(flat F).length:=by
 induction F with
 | nil=>rfl
 | cons y F ih =>
  rw [List.map_cons,List.sum_cons,ih]
  show nodes y.Ls+_=((y::F).flatMap _).length
  rw [List.flatMap_cons,List.length_append];rfl
theorem ones_len (F:List Ly):(F.map fun _=>1).sum=F.length:=by
 induction F with
 | nil=>rfl
 | cons y F ih=>rw [List.map_cons,List.sum_cons,ih,List.length_cons];omega
set_option maxRecDepth 100000 in
set_option maxHeartbeats 1000000 in
theorem below_any {w : World} {t a b c : Nat} {s : Sl} (h9 : s.m.c = 9) (hS : ∀ W, Below w.heap.size w W → Calls Tryz.prog 60 #[.pointer (some ⟨t, 0, none⟩), hV s.link] W (SndE W a b c)) :
    Calls Tryz.prog 107 #[.pointer (some ⟨t,0,none⟩),slV s] w (SndE w a b c):=by
 obtain ⟨⟨S,Cc⟩,r,v,d,⟨l1,l2⟩⟩:=s
 simp only at h9
 subst h9
 replace hS:=qh hS
 have hbA:=qh ((Below.refl w.heap.size w).alloc (Nat.le_refl _) (.cells #[.int .u64 ((S:Nat):Int),.int .u8 ((9:Nat):Int),.string r,.string v,.bool d,.int .i64 l1,.int .u64 l2] 92))
 go_enter Tryz.func107,Tryz.ntmps107
 go_wp2_with fail
 refine (hS.out _ hbA.out).mono ?_
 rintro z w1 ⟨rfl,hb⟩
 have hB:=qh (hbA.out.trans (hb.mono hbA.out.size))
 clear hb
 go_wp2_with fail
 exact bodyPost_ret (v:=.tuple #[.int .i64 ((a:Nat):Int),.int .i64 ((b:Nat):Int),.int .i64 ((c:Nat):Int),.bool true]) (by simp [results,Tryz.results107,go_sem]) rfl ⟨rfl,hB.out⟩
section
variable {w0 w:World} {T:TS} {Y:List Ly} {C:Cont Str}
theorem MTr.soundN (hn1 : (flat Y).length ≤ 100000000000) (hn2 : Y.length ≤ 100000000000) (hn3 : C.length ≤ 100000000000) : ∀ (n : Nat) (w : World), MTr w0 w T Y C → ∀ l, l ∈ Y → (∀ y, y ∈ Y → l.pre <+: y.pre → y.pre.length ≤ l.pre.length + n) →
    Calls Tryz.prog 60 #[.pointer (some ⟨T.t,0,none⟩),hV l.r] w (SndE w (wsum (fun l=>nodes l.Ls) Y l.pre) (wsum (fun _=>1) Y l.pre) (wsum plainN Y l.pre)):=by
 intro n
 induction n with
 | zero =>
  intro w h l hl hd;have e1:=h.sane.ok.wsum hl (fun l=>nodes l.Ls);have e2:=h.sane.ok.wsum hl (fun _=>1);have e3:=h.sane.ok.wsumP hl;have b1:=wsum_le (fun l=>nodes l.Ls) Y l.pre;have b2:=wsum_le (fun _=>1) Y l.pre;have b3:=wsum_le plainN Y l.pre;have e4:=h.ct.plainC h.sane.ok;rw [wsum_nil] at e4;rw [flat_len2] at b1;rw [ones_len] at b2;rw [e1] at b1 ⊢;rw [e2] at b2 ⊢;rw [e3] at b3 ⊢;refine h.soundW hl _ _ _ (fun W x hx hdp hW=>?_) (fun x hx hdp=>?_) (by omega) (by omega) (by omega)
  ·obtain ⟨l',hl',hp,_⟩:=h.sane.ok.down l hl x hx hdp
   have:=hd l' hl' (by rw [hp];exact List.prefix_append _ _);rw [hp,List.length_append,ube_len] at this;omega
  ·unfold below belowP
   rw [hdp];exact ⟨rfl,rfl,rfl⟩
 | succ n ih =>
  intro w h l hl hd;have e1:=h.sane.ok.wsum hl (fun l=>nodes l.Ls);have e2:=h.sane.ok.wsum hl (fun _=>1);have e3:=h.sane.ok.wsumP hl;have b1:=wsum_le (fun l=>nodes l.Ls) Y l.pre;have b2:=wsum_le (fun _=>1) Y l.pre;have b3:=wsum_le plainN Y l.pre;have e4:=h.ct.plainC h.sane.ok;rw [wsum_nil] at e4;rw [flat_len2] at b1;rw [ones_len] at b2;rw [e1] at b1 ⊢;rw [e2] at b2 ⊢;rw [e3] at b3 ⊢;refine h.soundW hl _ _ _ (fun W x hx hdp hW=>?_) (fun x hx hdp=>?_) (by omega) (by omega) (by omega)
  ·obtain ⟨l',hl',hp,hr⟩:=h.sane.ok.down l hl x hx hdp
   refine below_any ((h.sane.ok.key l hl x hx).2.dp hdp).1 fun W2 hW2=>?_
   have h2:=(h.on (h.am.below hW))
   have:=ih W2 (h2.on (h2.am.below hW2)) l' hl' fun y hy hpy=>by
    have h3:l.pre <+: y.pre:=by
     refine List.IsPrefix.trans ?_ hpy;rw [hp];exact List.prefix_append _ _
    have:=hd y hy h3;rw [hp,List.length_append,ube_len];omega
   rw [hr,hp] at this;unfold below belowP;rw [hdp];exact this
  ·unfold below belowP
   rw [hdp];exact ⟨rfl,rfl,rfl⟩
set_option maxRecDepth 100000 in
set_option maxHeartbeats 1000000 in
theorem MTr.check (h:MTr w0 w T Y C) (hn1:T.F.length≤100000000000) (hn2:Y.length≤100000000000) (hn3:C.length≤100000000000):Calls Tryz.prog 20 #[.pointer (some ⟨T.t,0,none⟩)] w fun e w'=>e=.returned (.bool true)∧Below w.heap.size w w':=by
 obtain ⟨c0,c1,c2,c3,c4,c5,c6,hq⟩:=h.am.cells
 have hNo:=qh (none_ok c1)
 obtain ⟨l,F',hY,hr⟩:=h.ro
 have hl:l∈Y:=by rw [hY];simp
 have hp:l.pre=[]:=by
  obtain ⟨l2,F2,e,hp⟩:=h.sane.ok.root;rw [hY] at e;injection e with e;rw [e];exact hp
 have hfl:(flat Y).length=T.F.length:=by have:=h.fl.length_eq;rw [List.length_map] at this;exact this.symm
 have hLv:=qh fun W (hW:Below w.heap.size w W)=>AMnode.gLive T.d.A [] _ W ((h.am.below hW).bw.ag h.am.hd h.am.ta h.am.tc)
 rw [h.am.len] at hLv
 have hSo:=qh fun W (hW:Below w.heap.size w W)=>MTr.soundN (by rw [hfl];exact hn1) hn2 hn3 1000000 W (h.on (h.am.below hW)) l hl fun y hy _=>by have:=h.sane.pre y hy;omega
 have e4:=h.ct.plainC h.sane.ok
 rw [hp,wsum_nil,wsum_nil,flat_len2,ones_len,hfl,hr,e4] at hSo
 have hly:=h.ly
 have hn:=h.n
 rw [← hly,← hn] at hSo
 obtain ⟨t,ht⟩:∃ x,x=T.t:=⟨_,rfl⟩
 obtain ⟨A,hA⟩:∃ x,x=T.d.A.a:=⟨_,rfl⟩
 obtain ⟨NF,hNF⟩:∃ x,x=T.F.length:=⟨_,rfl⟩
 obtain ⟨n,hn'⟩:∃ x,x=T.n:=⟨_,rfl⟩
 obtain ⟨ly,hly'⟩:∃ x,x=T.ly:=⟨_,rfl⟩
 obtain ⟨r,hr'⟩:∃ x,x=T.r:=⟨_,rfl⟩
 rw [← ht] at c0 c1 c2 c3 c4 c5 c6 hNo hSo hq ⊢
 rw [← hA] at c1 hLv
 rw [← hNF] at hLv hSo
 rw [← hn'] at c4 hSo
 rw [← hly'] at c5 hSo
 rw [← hr'] at c2 c3 hSo
 replace hNF:=qh hNF
 clear h hNF hn' hly' hr' hA ht hly hn e4 hfl hp hl hY hr hn1 hn2 hn3
 unfold hV at hSo
 have hcs:=qh (And.intro c1 (And.intro c4 c5))
 go_enter Tryz.func20,Tryz.ntmps20
 go_wp2_with fail
 refine hNo.out.mono ?_
 rintro e w1 ⟨rfl,rfl⟩
 go_wp2_with fail
 refine (hSo.out _ (Below.refl _ _)).mono ?_
 rintro e w1 ⟨rfl,hb⟩
 clear c0 c1 c2 c3 c4 c5 c6
 obtain ⟨c1,c4,c5⟩:=hcs.out
 replace c1:=keep hb c1
 replace c4:=keep hb c4
 replace c5:=keep hb c5
 replace hb:=qh hb
 go_wp2_with fail
 refine (hLv.out _ hb.out).mono ?_
 rintro e w2 ⟨rfl,hb2⟩
 have hB2:=qh (hb.out.trans (hb2.mono hb.out.size))
 clear c1 c4 c5
 obtain ⟨c1,c4,c5⟩:=hcs.out
 replace c4:=keep hB2.out c4
 replace c5:=keep hB2.out c5
 clear hb2 c1
 go_wp2_with fail
 go_ret
 exact ⟨rfl,hB2.out⟩
end
open Go.Lib
def Pres (P:List Byt) (H:Str→Prop):Prop :=
 ∀ q,q∈P→q=[]∨∃ k1 k2 n,H k1∧H k2∧k1≠k2∧1≤n∧q=(bl k1).take (8*n)∧q=(bl k2).take (8*n)∧8*n < (bl k1).length∧8*n < (bl k2).length
theorem both_pre : ∀ (hs : List Hd) (p a b : Byt) (v w : Str), hs.length = alk a b + 1 → a ≠ [] → b ≠ [] →
    ∀ q,q∈(bothN p a b v w hs).map (·.pre)→∃ j,q=p++a.take (8*j)∧a.take (8*j)=b.take (8*j)∧8*j < a.length∧8*j < b.length
 | [],_,_,_,_,_,h,_,_,_,_=>by simp at h
 | [h0],p,a,b,v,w,h,ha,hb,q,hq=>by
  have:q=p:=by simpa [bothN] using hq
  exact ⟨0,by rw [this];simp,rfl,by simpa using List.length_pos_iff.2 ha,by simpa using List.length_pos_iff.2 hb⟩
 | h0::g::hs,p,a,b,v,w,h,ha,hb,q,hq=>by
  have hst:8 < a.length∧8 < b.length∧a.take 8=b.take 8:=Classical.byContradiction fun hn=>by
   rw [alk_stop hn] at h;simp at h
  have ha8:a.drop 8≠[]:=fun e=>by have:=List.drop_eq_nil_iff.1 e;omega
  have hb8:b.drop 8≠[]:=fun e=>by have:=List.drop_eq_nil_iff.1 e;omega
  have hq':q=p∨q∈(bothN (p++a.take 8) (a.drop 8) (b.drop 8) v w (g::hs)).map (·.pre):=by simpa [bothN] using hq
  rcases hq' with rfl | hq'
  ·exact ⟨0,by simp,rfl,by simpa using List.length_pos_iff.2 ha,by simpa using List.length_pos_iff.2 hb⟩
  ·obtain ⟨j,e1,e2,e3,e4⟩:=both_pre (g::hs) (p++a.take 8) (a.drop 8) (b.drop 8) v w (by rw [alk_step hst] at h;simpa using h) ha8 hb8 q hq'
   rw [List.length_drop] at e3 e4;refine ⟨j+1,?_,?_,by omega,by omega⟩
   ·rw [e1,List.append_assoc,show 8*(j+1)=8+8*j by omega,← List.take_add]
   ·rw [show 8*(j+1)=8+8*j by omega,List.take_add,List.take_add,hst.2.2,e2]
section
variable {F:List Ly} {C:Cont Str} {key k1 k2:Str} {i n:Nat} {l:Ly} {so:Sl} {v v1 v2:Str} {hs:List Hd} {H:Str→Prop}
theorem take_app {p q:Byt} {m:Nat} {a:Byt} (hp:p.length=m) (j:Nat) (h:q=p++a):q.take (m+j)=p++a.take j:=by
 rw [h,← hp,List.take_length_add_append]
theorem pres_new (hm : MOK F) (hc : MCt F C) (ho : On F key i l) (hg : M.cget (content l.Ls) (mT (mkAt key i)) = some so) (hd : so.deep = false) (hr : bl so.rest ≠ keyAt key (i + 1))
    (hl:hs.length=alk (bl so.rest) (keyAt key (i+1))+1):∀ q,q∈(bothN (l.pre++ube 8 so.m.s) (bl so.rest) (keyAt key (i+1)) so.val v hs).map (·.pre) →
    ∃ k' n,(k',so.val)∈C∧k'≠key∧1≤n∧q=(bl k').take (8*n)∧q=(bl key).take (8*n)∧8*n < (bl k').length∧8*n < (bl key).length:=by
 intro q hq
 obtain ⟨e,hso⟩:=hm.slot ho.mem (mkOf_b _) hg
 obtain ⟨_,h9⟩:=hso.pl hd
 have hdr:keyAt key (i+1)=(keyAt key i).drop 8:=by
  show (bl key).drop (8*(i+1))=((bl key).drop (8*i)).drop 8
  rw [List.drop_drop];rfl
 have hc9:so.m.c=9:=Classical.byContradiction fun hn=>by
  have h0:so.rest=s0:=Classical.byContradiction fun hh=>hn (h9.2 hh)
  have h1:(mkOf (keyAt key i)).c=min (keyAt key i).length 9:=rfl;rw [e] at hn
  have h2:(keyAt key i).length≤8:=by
   have:(mkAt key i).c≠9:=hn;have h3:(mkAt key i).c=min (keyAt key i).length 9:=rfl;omega
  refine hr ?_;rw [hdr,List.drop_eq_nil_of_le h2,h0];rfl
 have hrn:bl so.rest≠[]:=fun h0=>h9.1 hc9 (bl_inj (a:=so.rest) (b:=s0) h0)
 have hlen:9≤(keyAt key i).length:=cls9 (by rw [← e];exact hc9)
 have hlk:8*(i+1) < (bl key).length:=by rw [List.length_drop] at hlen;omega
 have hkn:keyAt key (i+1)≠[]:=fun h0=>by have:=List.drop_eq_nil_iff.1 h0;omega
 have hube:ube 8 so.m.s=(keyAt key i).take 8:=by rw [e];exact ube_mk _ (by omega)
 have hT:l.pre++ube 8 so.m.s=(bl key).take (8*(i+1)):=by rw [ho.pre,hube,show 8*(i+1)=8*i+8 by omega,List.take_add]
 have hTl:((bl key).take (8*(i+1))).length=8*(i+1):=by rw [List.length_take];omega
 have hsb:sb so=ube 8 so.m.s++bl so.rest:=by
  unfold sb;rw [hc9,List.take_of_length_le (by rw [ube_len];decide)]
 have hk':bl (bs (l.pre++sb so))=(bl key).take (8*(i+1))++bl so.rest:=by rw [bl_bs,hsb,← List.append_assoc,hT]
 obtain ⟨j,e1,e2,e3,e4⟩:=both_pre hs _ _ _ _ _ hl hrn hkn q hq
 rw [hT] at e1
 have hkk:bl key=(bl key).take (8*(i+1))++keyAt key (i+1):=(List.take_append_drop _ _).symm
 have a1:(bl (bs (l.pre++sb so))).take (8*(i+1)+8*j)=(bl key).take (8*(i+1))++(bl so.rest).take (8*j):=take_app hTl (8*j) hk'
 have a2:(bl key).take (8*(i+1)+8*j)=(bl key).take (8*(i+1))++(keyAt key (i+1)).take (8*j):=take_app hTl (8*j) hkk
 refine ⟨bs (l.pre++sb so),i+1+j,(hc.mem _ _).2 ⟨l,ho.mem,(_,so),(hm.cget ho.mem).1 hg,hd,bl_bs _,rfl⟩,fun h0=>?_,by omega,?_,?_,?_,?_⟩
 ·rw [h0] at hk'
  exact hr (List.append_cancel_left (hkk.symm.trans hk')).symm
 ·rw [e1,show 8*(i+1+j)=8*(i+1)+8*j by omega,a1]
 ·rw [e1,e2,show 8*(i+1+j)=8*(i+1)+8*j by omega,a2]
 ·rw [hk',List.length_append,hTl];omega
 ·have:=e4
  rw [List.length_drop] at this;omega
theorem deep_there (h:MOK F) (hc:MCt F C) (m1:(k1,v1)∈C) (m2:(k2,v2)∈C) (hne:k1≠k2) (e:(bl k1).take (8*n)=(bl k2).take (8*n)) (h1:8*n < (bl k1).length) (h2:8*n < (bl k2).length):∃ l,l∈F∧l.pre=(bl k1).take (8*n):=by
 obtain ⟨i1,l1,s1,o1,g1,d1,b1,_⟩:=hc.at h m1
 obtain ⟨i2,l2,s2,o2,g2,d2,b2,_⟩:=hc.at h m2
 have there:∀ {k:Str} {i:Nat} {l:Ly},On F k i l→n≤i→∃ l,l∈F∧l.pre=(bl k).take (8*n):=fun {k i l} o hn=>by
  rcases Nat.lt_or_ge n i with h3 | h3
  ·obtain ⟨l',_,o',_⟩:=o.chain h n h3
   exact ⟨l',o'.mem,o'.pre⟩
  ·obtain rfl:n=i:=by omega
   exact ⟨l,o.mem,o.pre⟩
 by_cases hi1:n≤i1
 ·exact there o1 hi1
 by_cases hi2:n≤i2
 ·rw [e];exact there o2 hi2
 replace hi1:=Nat.lt_of_not_le hi1
 replace hi2:=Nat.lt_of_not_le hi2
 have hpre:∀ i,i≤n→(bl k1).take (8*i)=(bl k2).take (8*i):=fun i hi=>by
  rw [← take_pre (k:=bl k1) (show 8*i≤8*n by omega),e,take_pre (by omega)]
 have hmk:∀ i,i < n→mkAt k1 i=mkAt k2 i:=fun i hi=>mk_alike ⟨by rw [List.length_drop];omega,by rw [List.length_drop];omega,by
  have:=congrArg (List.drop (8*i)) (hpre (i+1) (by omega));rw [show 8*(i+1)=8*i+8 by omega,List.take_add,List.take_add,List.drop_left' (by rw [List.length_take];omega),List.drop_left' (by rw [List.length_take];omega)] at this
  exact this⟩
 have up1:∀ {i},i≤n→∀ {l},On F k2 i l→On F k1 i l:=fun {i} hi {l} o=>⟨o.mem,o.pre.trans (hpre i hi).symm,by omega⟩
 exfalso
 rcases Nat.lt_trichotomy i1 i2 with hij | hij | hij
 ·obtain ⟨l3,s3,q1,q2,q3⟩:=o2.chain h i1 hij
  rw [(up1 (by omega) q1).uniq h o1,← hmk i1 hi1,g1] at q2;injection q2 with q2;rw [← q2,d1] at q3
  cases q3
 ·subst hij
  have hll:=o1.uniq h (up1 (by omega) o2);rw [← hll,← hmk i1 hi1,g1] at g2;injection g2 with g2;rw [← g2] at b2;refine hne (bl_inj ?_);rw [← List.take_append_drop (8*i1) (bl k1),← List.take_append_drop (8*i1) (bl k2),hpre i1 (by omega)];exact congrArg _ (b1.trans b2.symm)
 ·obtain ⟨l3,s3,q1,q2,q3⟩:=o1.chain h i2 hij
  have q1':On F k2 i2 l3:=⟨q1.mem,q1.pre.trans (hpre i2 (by omega)),by omega⟩;rw [q1'.uniq h o2,hmk i2 hi2,g2] at q2;injection q2 with q2;rw [← q2,d2] at q3
  cases q3
theorem content_marks (h : MOK F) (hc : MCt F C) (hp : Pres (F.map (·.pre)) H) (hH : ∀ p, p ∈ C → H p.1) (hl : l ∈ F) {x : Str × Sl} (hx : x ∈ content l.Ls) :
    ∃ k j,H k∧l.pre.length=8*j∧l.pre=(bl k).take (8*j)∧x.1=mT (mkAt k j)∧(j=0∨8*j < (bl k).length):=by
 obtain ⟨j,hj⟩:=h.eights _ l hl (Nat.le_refl _)
 obtain ⟨hk,hs⟩:=h.key l hl x hx
 cases hd:x.2.deep
 ·have hm:(bs (l.pre++sb x.2),x.2.val)∈C:=(hc.mem _ _).2 ⟨l,hl,x,hx,hd,bl_bs _,rfl⟩
  have hb:bl (bs (l.pre++sb x.2))=l.pre++sb x.2:=bl_bs _
  have e2:keyAt (bs (l.pre++sb x.2)) j=sb x.2:=by
   show (bl _).drop (8*j)=_
   rw [hb,← hj,List.drop_left]
  refine ⟨_,j,hH _ hm,hj,by rw [hb,← hj,List.take_left],?_,?_⟩
  ·rw [hk]
   show _=mT (mkOf (keyAt _ j))
   rw [e2,mk_sb hs hd]
  ·show j=0∨8*j < (bl (bs (l.pre++sb x.2))).length
   rcases Nat.eq_zero_or_pos j with h0 | h0
   ·exact .inl h0
   ·right
    have hne:l.pre≠[]:=fun hh=>by rw [hh] at hj;simp at hj;omega
    have hc0:=h.cls l hl hne x hx;refine Classical.byContradiction fun hh=>hc0 ?_
    have:sb x.2=[]:=by rw [← e2];exact List.drop_eq_nil_iff.2 (by omega)
    have h6:=mk_sb hs hd;rw [this] at h6;rw [← h6];rfl
 ·obtain ⟨l',h1,h2,h3⟩:=h.down l hl x hx hd
  have hl':l'.pre.length=8*(j+1):=by rw [h2,List.length_append,ube_len,hj];omega
  rcases hp l'.pre (List.mem_map.2 ⟨l',h1,rfl⟩) with h0 | ⟨k1,_,n,p1,_,_,_,p2,_,p3,_⟩
  ·rw [h0] at hl';simp at hl'
  ·have hn : n = j + 1 := by
     rw [p2,List.length_take] at hl';omega
   subst hn;have hsp:l.pre++ube 8 x.2.m.s=(bl k1).take (8*j)++(keyAt k1 j).take 8:=by rw [← h2,p2,show 8*(j+1)=8*j+8 by omega,List.take_add]
   obtain ⟨a1,a2⟩:=List.append_inj hsp (by rw [hj,List.length_take];omega);refine ⟨k1,j,p1,hj,a1,?_,.inr (by omega)⟩;rw [hk];have hc:x.2.m.c=9:=(hs.dp hd).1;have hl8:8 < (keyAt k1 j).length:=by rw [List.length_drop];omega
   have e4:(mkAt k1 j).s=x.2.m.s:=by
    show be (pad 8 (keyAt k1 j))=_
    rw [pad_take 8 _ (by omega),← a2,ube_be_le (by simpa using hs.m.s)]
   have e5:(mkAt k1 j).c=x.2.m.c:=by
    rw [hc]
    show min (keyAt k1 j).length 9=9
    omega
   congr 1
   cases hmm:mkAt k1 j
   cases hxx:x.2.m;rw [hmm] at e4 e5;rw [hxx] at e4 e5;simp only at e4 e5;rw [e4,e5]
end
theorem sub_len {α:Type} [DecidableEq α]:∀ {a b:List α},a.Nodup→(∀ x,x∈a→x∈b)→a.length≤b.length
 | [],_,_,_=>Nat.zero_le _
 | x::a,b,h,hs=>by
  obtain ⟨h1,h2⟩:=List.nodup_cons.1 h;have hx:=hs x (by simp);have:=sub_len (b:=b.erase x) h2 fun y hy=>(List.mem_erase_of_ne (fun e=>h1 (by rw [← e];exact hy))).2 (hs y (by simp [hy]))
  rw [List.length_erase_of_mem hx] at this;have:=List.length_pos_of_mem hx;rw [List.length_cons];omega
theorem csort_nodup {β:Type} {C:Cont β} (h:CSort C):(C.map (·.1)).Nodup:=by
 unfold List.Nodup
 rw [List.pairwise_map]
 exact List.Pairwise.imp (fun hab e=>slt_ne hab e) h
section
variable {β:Type}
theorem cont_le {m:Nat}:∀ {S:Lev β},(∀ x,x∈S→x.2.pairs.length≤m)→(cont S).length≤m*S.length
 | [],_=>by simp [cont]
 | x::S,h=>by
  rw [cont_cons,List.length_append,List.length_cons];have:=h x (by simp);have:=cont_le (S:=S) (fun y hy=>h y (by simp [hy]));rw [Nat.mul_add];omega
theorem cont_ge:∀ {S:Lev β},(∀ x,x∈S→2≤x.2.pairs.length)→2*S.length≤(cont S).length
 | [],_=>by simp
 | x::S,h=>by
  rw [cont_cons,List.length_append,List.length_cons];have:=h x (by simp);have:=cont_ge (S:=S) (fun y hy=>h y (by simp [hy]));omega
variable {Ls:List (Lev β)}
theorem Tower.level0 (ht:Tower Ls):∃ S,Ls[0]?=some S∧LevOK true S:=by
 obtain ⟨x,hx⟩:=ht.top
 have hl:=(List.getElem?_eq_some_iff.1 hx).1
 have hS:Ls[0]?=some Ls[0]:=List.getElem?_eq_getElem (by omega)
 exact ⟨_,hS,ht.ok _ _ hS⟩
theorem Tower.le6 (ht:Tower Ls) (hs:Slim Ls):(content Ls).length≤6*leaves Ls:=by
 obtain ⟨S,hS,hok⟩:=ht.level0
 rw [content_of hS,leaves_of hS]
 refine cont_le fun x hx=>?_
 obtain ⟨l,hl⟩:=hok.node hx
 rw [pairs_len hl (hok.lf x hx)]
 exact hs 0 S hS x hx
theorem Tower.ge2 (ht:Tower Ls) (hf:Fat Ls) (h1:2≤leaves Ls):2*leaves Ls≤(content Ls).length:=by
 obtain ⟨S,hS,hok⟩:=ht.level0
 rcases hf with hf | hf
 ·obtain ⟨x,hx⟩:=ht.top
  rw [hf] at hx;rw [leaves_of hx] at h1;simp at h1
 ·rw [content_of hS,leaves_of hS]
  refine cont_ge fun x hx=>?_
  obtain ⟨l,hl⟩:=hok.node hx;rw [pairs_len hl (hok.lf x hx)];exact hf S hS x hx
theorem Tower.one (ht:Tower Ls) (hk:Thick Ls) (hf:Fat Ls) (h:(content Ls).length≤3):nodes Ls=1∧Ls.length=1:=by
 obtain ⟨h1,h2,h3⟩:=ht.size hk
 have h4:leaves Ls≤1:=by
  rcases Nat.lt_or_ge (leaves Ls) 2 with h5 | h5
  ·omega
  ·have:=ht.ge2 hf h5;omega
 have h5:Ls.length - 1 < 1:=(Nat.pow_lt_pow_iff_right (a:=2) (by omega)).1 (by omega)
 obtain ⟨x,hx⟩:=ht.top
 have h6:x∈Ls.flatten.map id:=by
  rw [List.map_id];exact List.mem_flatten.2 ⟨_,List.mem_of_getElem? hx,by simp⟩
 have h7:=List.length_pos_of_mem h6
 rw [List.length_map] at h7
 have h8:0 < nodes Ls:=h7
 exact ⟨by omega,by omega⟩
theorem Tower.three (ht:Tower Ls) (hs:Slim Ls) (h:7≤(content Ls).length):3≤nodes Ls:=by
 have h1:=ht.le6 hs
 obtain ⟨S,hS,hok⟩:=ht.level0
 have h2:=leaves_of hS
 obtain ⟨x,hx⟩:=ht.top
 have hl:=(List.getElem?_eq_some_iff.1 hx).1
 rcases Nat.lt_or_ge 1 Ls.length with h3 | h3
 ·match Ls,hS,hx,h3,h2 with
  | S0::R,hS,hx,h3,h2 =>
   simp only [zg2,Option.some.injEq] at hS;subst hS
   have h4:x∈R.flatten:=List.mem_flatten.2 ⟨[x],List.mem_of_getElem? (i:=R.length - 1) (by
    have:(S0::R).length - 1=(R.length - 1)+1:=by simp at h3 ⊢;omega
    rw [this,zg3] at hx
    exact hx),by simp⟩
   have h5:=List.length_pos_of_mem h4
   show 3≤(S0::R).flatten.length
   rw [List.flatten_cons,List.length_append];omega
 ·have h4:Ls.length - 1=0:=by omega
  rw [h4,hS] at hx;injection hx with hx;rw [hx] at h2;simp at h2;omega
end
open Go.RowKit
def MIs (w0 w:World) (p t:Nat) (C:Cont Str) (c0 k pt:Nat) (Y:List Ly):Prop :=
 ∃ T,MTw w0 w T Y C k pt∧T.t=t∧T.P.1=p∧T.free.length=c0∧T.D.length=1
theorem lvs_nodes:∀ {Y:List Ly},(∀ l,l∈Y→Tower l.Ls∧Thick l.Ls)→(flat Y).length+Y.length≤2*lvs Y
 | [],_=>Nat.zero_le _
 | l::Y,h=>by
  have h1:=lvs_nodes (Y:=Y) fun z hz=>h z (by simp [hz])
  obtain ⟨a,b⟩:=h l (by simp);have h2:=(a.size b).1
  have e1:(flat (l::Y)).length=nodes l.Ls+(flat Y).length:=by
   show ((l::Y).flatMap _).length=_
   rw [List.flatMap_cons,List.length_append];rfl
  have e2:lvs (l::Y)=leaves l.Ls+lvs Y:=by unfold lvs;rw [List.map_cons,List.sum_cons]
  rw [e1,e2,List.length_cons];omega
section
variable {Y Y':List Ly} {C:Cont Str} {key:Str} {H H':Str→Prop}
theorem PutY.pres (h:PutY Y Y' key) (hm:MOK Y) (hc:MCt Y C) (hH:∀ x,H x→H' x) (hC:∀ p,p∈C→H' p.1) (hk:H' key) (hp:Pres (Y.map (·.pre)) H):Pres (Y'.map (·.pre)) H':=by
 have old:Pres (Y.map (·.pre)) H':=fun q hq=>(hp q hq).imp id fun ⟨k1,k2,n,a1,a2,a3⟩=>⟨k1,k2,n,hH _ a1,hH _ a2,a3⟩
 intro q hq
 rcases h.2 with e | ⟨i,l,so,v,hs,ho,hg,hd,hr,hl,e⟩
 ·exact old q (by rw [← e];exact hq)
 ·rw [e,List.mem_append] at hq
  rcases hq with hq | hq
  ·exact old q hq
  ·obtain ⟨k',n,h1,h2,h3,h4,h5,h6,h7⟩:=pres_new hm hc ho hg hd hr hl q hq
   exact .inr ⟨k',key,n,hC _ h1,hk,h2,h3,h4,h5,h6,h7⟩
end
section
variable {w0 w w':World} {T:TS} {Y:List Ly} {C:Cont Str} {c0 k pt p t:Nat} {key v:Str}
theorem MTw.size (h:MTw w0 w T Y C k pt):(flat Y).length≤Y.length+2*k:=by
 have h1:=lvs_nodes fun l hl=>⟨h.wy.ok.tow l hl,h.wy.wb.thk l hl⟩
 have h2:=h.wy.wb.lv
 omega
theorem MTw.flen (h:MTw w0 w T Y C k pt):T.F.length=(flat Y).length:=by have:=h.mf.fl.length_eq;rw [List.length_map] at this;exact this
theorem MTw.keys (h:MTw w0 w T Y C k pt):∀ p,p∈C→p.1.size≤2*pt+8:=fun p hp=>by
 obtain ⟨l,hl,x,hx,hd,e,_⟩:=(h.ct.mem p.1 p.2).1 hp
 have h1:=h.wy.wb.pre l hl
 have h2:=h.wy.wb.rst l hl x hx
 have h3:=congrArg List.length e
 unfold sb at h3
 rw [List.length_append,List.length_append,List.length_take,ube_len] at h3
 have h4:(bl p.1).length=p.1.size:=by simp [bl]
 omega
theorem MIs.below (h:MIs w0 w p t C c0 k pt Y) (hb:Below w.heap.size w w'):MIs w0 w' p t C c0 k pt Y:=by
 obtain ⟨T,a,b⟩:=h
 exact ⟨T,a.on (a.mf.am.below hb),b⟩
theorem MIs.bel (h:MIs w0 w p t C c0 k pt Y):Below w0.heap.size w0 w:=by
 obtain ⟨T,a,b⟩:=h
 exact a.mf.am.bw.ro.bel
theorem MIs.sorted (h:MIs w0 w p t C c0 k pt Y):CSort C:=by
 obtain ⟨T,a,b⟩:=h
 exact a.ct.srt
theorem MIs.ok (h:MIs w0 w p t C c0 k pt Y):WY Y (Y.length+k) pt∧MCt Y C:=by
 obtain ⟨T,a,b⟩:=h
 exact ⟨a.wy,a.ct⟩
theorem MIs.pos (h:MIs w0 w p t C c0 k pt Y):1≤Y.length∧16*(Y.length - 1)≤pt:=by
 obtain ⟨T,a,b⟩:=h
 obtain ⟨l,F',e,_⟩:=a.ro
 exact ⟨by rw [e];simp,a.yl⟩
theorem MIs.get (h : MIs w0 w p t C c0 k pt Y) (hk : k ≤ 1000) (hpt : pt ≤ 100000) (hks : key.size ≤ 100000000) : Calls Tryz.prog 15 #[.pointer (some ⟨t, 0, none⟩), .string key, .nilFunc] w fun e w' =>
    e=.returned (.tuple #[.string ((M.cget C key).getD s0),.bool (M.cget C key).isSome,.bool false])∧Below w.heap.size w w':=by
 obtain ⟨T,a,rfl,b⟩:=h
 exact (a.tr hk hpt).getB key hks
theorem MIs.next (h : MIs w0 w p t C c0 k pt Y) (hk : k ≤ 1000) (hpt : pt ≤ 100000) (hks : key.size ≤ 100000000) (after : Bool) : Calls Tryz.prog 18 #[.pointer (some ⟨t, 0, none⟩), .string key, .bool after, .nilFunc] w fun e w' =>
    e=.returned (.tuple #[.string (fK (M.cnext C key after)),.string (fX (M.cnext C key after)),.bool (M.cnext C key after).isSome,.bool false])∧Below w.heap.size w w':=by
 obtain ⟨T,a,rfl,b⟩:=h
 exact (a.tr hk hpt).nextB key hks after
theorem MIs.all (h:MIs w0 w p t C c0 k pt Y) (hk:k≤1000) (hpt:pt≤100000) (hC:C.length≤100000):Calls Tryz.prog 30 #[.pointer (some ⟨t,0,none⟩)] w (AllEnd w C):=by
 obtain ⟨T,a,rfl,b⟩:=h
 exact (a.tr hk hpt).all hC fun p hp=>by have:=a.keys p hp;omega
theorem MIs.len (h:MIs w0 w p t C c0 k pt Y):Calls Tryz.prog 24 #[.pointer (some ⟨t,0,none⟩)] w fun e w'=>e=.returned (.int .i64 ((C.length:Nat):Int))∧w=w':=by
 obtain ⟨T,a,rfl,b⟩:=h
 have:=a.mf.am.lenC
 rw [a.n] at this
 exact this
theorem MIs.layers (h:MIs w0 w p t C c0 k pt Y):Calls Tryz.prog 27 #[.pointer (some ⟨t,0,none⟩)] w fun e w'=>e=.returned (.int .i64 ((Y.length:Nat):Int))∧w=w':=by
 obtain ⟨T,a,rfl,b⟩:=h
 have:=a.mf.am.layersC
 rw [a.ly] at this
 exact this
theorem MIs.slots (h:MIs w0 w p t C c0 k pt Y):Calls Tryz.prog 25 #[.pointer (some ⟨t,0,none⟩)] w fun e w'=>e=.returned (.int .i64 (((flat Y).length:Nat):Int))∧Below w.heap.size w w':=by
 obtain ⟨T,a,rfl,b⟩:=h
 have:=a.mf.am.slotsC
 rw [a.flen] at this
 exact this
theorem MIs.check (h:MIs w0 w p t C c0 k pt Y) (hk:k≤1000) (hpt:pt≤100000) (hC:C.length≤100000000):Calls Tryz.prog 20 #[.pointer (some ⟨t,0,none⟩)] w fun e w'=>e=.returned (.bool true)∧Below w.heap.size w w':=by
 obtain ⟨T,a,rfl,b⟩:=h
 have h1:=a.size
 have h2:=a.yl
 exact (a.tr hk hpt).check (by rw [a.flen];omega) (by omega) (by omega)
theorem MIs.cnt (h:MIs w0 w p t C c0 k pt Y):∃ T,MTw w0 w T Y C k pt∧T.t=t∧T.P.1=p∧T.free.length=c0∧T.D.length=1∧T.free.count true+(flat Y).length=c0:=by
 obtain ⟨T,a,b,c,d,e⟩:=h
 refine ⟨T,a,b,c,d,e,?_⟩
 have h1:=a.mf.am.cnt
 have h2:=a.mf.am.hd
 have h3:=a.mf.am.len
 rw [a.flen] at h3
 have h4:T.D=[T.d]:=by
  match hD:T.D,e with
  | [x],_ =>
   rw [hD] at h2
   cases hi:T.i with
   | zero=>rw [hi] at h2;simp at h2;rw [h2]
   | succ i=>rw [hi] at h2;simp at h2
 rw [h4] at h1
 simp at h1
 omega
theorem MIs.live (h:MIs w0 w p t C c0 k pt Y):Calls Tryz.prog 26 #[.pointer (some ⟨p,0,none⟩)] w fun e w'=>e=.returned (.int .i64 (((flat Y).length:Nat):Int))∧Below w.heap.size w w':=by
 obtain ⟨T,a,b,c,d,e,f⟩:=h.cnt
 obtain ⟨hp,_,_,_⟩:=a.mf.am.bw.ars.pool
 have hl:=hp.1
 subst c
 refine (pLive_any _ T.P.2.1 T.P.2.2 T.gens T.free w hp).mono ?_
 rintro e w' ⟨he,hb⟩
 refine ⟨?_,hb⟩
 have hc:T.free.count true≤T.free.length:=List.count_le_length
 rw [he]
 congr 2
 omega
theorem MIs.putAny (h : MIs w0 w p t C c0 k pt Y) (hk : k ≤ 1000) (hpt : pt ≤ 100000) (hks : key.size ≤ 100000) (hC : C.length ≤ 1000000000) :
    Calls Tryz.prog 22 #[.pointer (some ⟨t,0,none⟩),.string key,.string v] w fun e w' =>
     (e=.returned (.tuple #[.string ((M.cget C key).getD s0),.bool (M.cget C key).isSome,.int .i64 0])∧∃ Y',MIs w0 w' p t (cput C key v) c0 (k+1) (pt+key.size) Y'∧EvoY Y Y'∧PutY Y Y' key) ∨
     (e=.returned (.tuple #[.string s0,.bool false,.int .i64 5])∧M.cget C key=none∧MIs w0 w' p t C c0 k pt Y∧∃ n,c0 < n+(flat Y).length∧((n≤15∧∃ l,l∈Y∧n≤l.Ls.length+1)∨(16*(Y.length+n - 1)≤pt+key.size∧n≤1+key.size / 8))):=by
 obtain ⟨T,a,b,c,d,e,f⟩:=h.cnt
 subst b
 refine (a.put hk hpt key v hks hC).mono ?_
 rintro z w' (⟨hz,T',Y',h1,h2,h3,h4⟩ | ⟨hz,h1,⟨n,h2,h3⟩,h4,_⟩)
 ·exact .inl ⟨hz,Y',⟨T',h1,h2.t,by rw [h2.P];exact c,by rw [h2.fl];exact d,by rw [h2.dl];exact e⟩,h3,h4⟩
 ·exact .inr ⟨hz,h1,⟨T,a.on h4,rfl,c,d,e⟩,n,by omega,h3⟩
theorem MIs.put (h : MIs w0 w p t C c0 k pt Y) (hk : k ≤ 1000) (hpt : pt ≤ 100000) (hks : key.size ≤ 100000) (hC : C.length ≤ 1000000000) (hc : 2 * k + 17 + (pt + key.size) / 16 ≤ c0) :
    Calls Tryz.prog 22 #[.pointer (some ⟨t,0,none⟩),.string key,.string v] w fun e w' =>
     e=.returned (.tuple #[.string ((M.cget C key).getD s0),.bool (M.cget C key).isSome,.int .i64 0])∧∃ Y',MIs w0 w' p t (cput C key v) c0 (k+1) (pt+key.size) Y'∧EvoY Y Y'∧PutY Y Y' key:=by
 refine (h.putAny hk hpt hks hC).mono ?_
 rintro z w' (hz | ⟨_,_,_,n,h1,h2⟩)
 ·exact hz
 ·obtain ⟨h3,h4⟩:=h.pos
  obtain ⟨T,a,_⟩:=h;have h5:=a.size;rcases h2 with ⟨h6,_⟩ | ⟨h6,_⟩ <;> omega
theorem MIs.delete (h : MIs w0 w p t C c0 k pt Y) (hk : k ≤ 1000) (hpt : pt ≤ 100000) (hks : key.size ≤ 100000) (hC : C.length ≤ 1000000000) :
    Calls Tryz.prog 23 #[.pointer (some ⟨t,0,none⟩),.string key] w fun e w' =>
     e=.returned (.tuple #[.string ((M.cget C key).getD s0),.bool (M.cget C key).isSome])∧∃ Y',MIs w0 w' p t (cdel C key) c0 k pt Y'∧EvoY Y Y'∧Y'.map (·.pre)=Y.map (·.pre):=by
 obtain ⟨T,a,b,c,d,e⟩:=h
 subst b
 refine (a.delete hk hpt key hks hC).mono ?_
 rintro z w' ⟨hz,T',Y',h1,h2,h3,h4⟩
 exact ⟨hz,Y',⟨T',h1,h2.t,by rw [h2.P];exact c,by rw [h2.fl];exact d,by rw [h2.dl];exact e⟩,h3,h4⟩
theorem MIs.new {g f n : Nat} (hb : Below w0.heap.size w0 w) (hp : PoolIs w p g f (List.replicate n 1) (List.replicate n true)) (hl : w0.heap.size ≤ p ∧ w0.heap.size ≤ g ∧ w0.heap.size ≤ f) (hn : 1 ≤ n) :
    Calls Tryz.prog 12 #[.pointer (some ⟨p,0,none⟩)] w fun e w'=>∃ t r,e=.returned (.tuple #[.pointer (some ⟨t,0,none⟩),.int .i64 0])∧MIs w0 w' p t [] n 0 0 [ly0 r]:=by
 have hpg:=hp.2.2.1
 have hpf:=hp.2.2.2.1
 have hgf:=hp.2.2.2.2.1
 have hlp:=heap_lt hp.2.2.2.2.2.1
 have hlg:=heap_lt hp.2.2.2.2.2.2.1
 have hlf:=heap_lt hp.2.2.2.2.2.2.2
 have hro:Ro w0 w (mark (mark (mark (fun _=>0) p 1) g 2) f 3):=by
  refine ⟨hb,fun k hk=>?_,fun k hk=>?_⟩ <;> rw [mark_other (by omega),mark_other (by omega),mark_other (by omega)]
 have hB:BW w0 w (mark (mark (mark (fun _=>0) p 1) g 2) f 3) (p,g,f) (List.replicate n 1) (List.replicate n true) [] :=
  ⟨hro,⟨⟨hp,by rw [mark_other hpf,mark_other hpg,mark_self],by rw [mark_other hgf,mark_self],mark_self⟩,fun i d hd=>by simp at hd⟩⟩
 have hin:true∈List.replicate n true:=List.mem_replicate.2 ⟨by omega,rfl⟩
 refine (mtNew_some hB hin (by simp [List.count_replicate_self])).mono ?_
 rintro e w' ⟨T,r,he,h1,h2,h3,h4,h5,h6,h7,h8⟩
 exact ⟨T.t,r,he,T,h1,rfl,by rw [h2],by rw [h5];simp,h7⟩
end
end Go.Proofs.YtbdealmkmpnpoaaGreat.M
