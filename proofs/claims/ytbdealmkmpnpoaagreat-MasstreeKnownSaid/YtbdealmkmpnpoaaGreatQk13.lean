import Derived.Lib.SliceRun
import Derived.Deep.RegionLaw
import Derived.Laws.MakeOwn
import Derived.Test.YtbdealmkmpnpoaaGreatQk01
import Derived.Test.YtbdealmkmpnpoaaGreatQk02
import Derived.Test.YtbdealmkmpnpoaaGreatQk03
import Derived.Test.YtbdealmkmpnpoaaGreatQk04
import Derived.Test.YtbdealmkmpnpoaaGreatQk05
import Derived.Test.YtbdealmkmpnpoaaGreatQk06
import Derived.Test.YtbdealmkmpnpoaaGreatQk07
import Derived.Test.YtbdealmkmpnpoaaGreatQk08
import Derived.Test.YtbdealmkmpnpoaaGreatQk09
import Derived.Test.YtbdealmkmpnpoaaGreatQk10
import Derived.Test.YtbdealmkmpnpoaaGreatQk11
import Derived.Test.YtbdealmkmpnpoaaGreatQk12
set_option linter.all false
namespace Go.Proofs.YtbdealmkmpnpoaaGreat.M
open Go.RowKit
def DelE (w0 w:World) (T:TS) (Y:List Ly) (C:Cont Str) (k pt:Nat) (key:Str) (e:Ending) (w':World):Prop :=
 e=.returned (.tuple #[.string ((M.cget C key).getD s0),.bool (M.cget C key).isSome])∧∃ T' Y',MTw w0 w' T' Y' (cdel C key) k pt∧TEv w w' T T'∧(EvoY Y Y'∧Y'.map (·.pre)=Y.map (·.pre))
theorem cdel_none {β:Type} {C:Cont β} {k:Str} (h:cget C k=none):cdel C k=C:=by
 unfold cdel
 refine List.filter_eq_self.2 fun p hp=>?_
 unfold cget at h
 simp only [Option.map_eq_none_iff,List.find?_eq_none] at h
 have:=h p hp
 simpa using this
set_option maxRecDepth 100000 in
set_option maxHeartbeats 4000000 in
theorem MTw.delete {w0 w : World} {T : TS} {Y : List Ly} {C : Cont Str} {k pt : Nat} (h : MTw w0 w T Y C k pt) (hk : k ≤ 1000) (hpt : pt ≤ 100000) (key : Str) (hks : key.size ≤ 100000) (hCn : C.length ≤ 1000000000) :
    Calls Tryz.prog 23 #[.pointer (some ⟨T.t,0,none⟩),.string key] w (DelE w0 w T Y C k pt key):=by
 have hTr:=h.tr hk hpt
 have hFi:=qh (hTr.find key (by omega))
 have c1:=h.mf.am.cells.2.1
 have c6:=h.mf.am.cells.2.2.2.2.2.2.1
 have htl:=block_lt_of_cell c1
 have hNo:=qh (none_ok c1)
 obtain ⟨A,hAe⟩:∃ a,a=T.d.A.a:=⟨_,rfl⟩
 have hS0:=MS.start h.mf.am
 replace hS0:=qh hS0
 replace hAe:=qh hAe
 replace h:=qh h
 replace hTr:=qh hTr
 go_enter Tryz.func23,Tryz.ntmps23
 go_wp2_with fail
 refine hNo.out.mono ?_
 rintro z1 w1 ⟨rfl,rfl⟩
 go_wp2_with fail
 refine hFi.out.mono ?_
 clear hFi
 rintro z2 w2 ⟨i,l,pa,pc,up,mk,s,is,po,rfl,hon,hup,⟨hpo,hpge,hrow⟩,hA2,hE2,hist,hisf⟩
 have hpr:T.ρ pa=0:=h.out.mf.am.bw.ro.far _ hpge
 have hS2:=(hS0.out.call hA2 hE2).add hpo hpge hpr (fun x hx=>by cases hx)
 clear hpo
 obtain ⟨N,hN⟩:∃ N,N=l.Ls.length:=⟨_,rfl⟩
 rw [← hN] at hrow
 unfold slc
 have hik:i≤key.size:=hon.lt.elim (fun h9=>by omega) (fun h9=>by have:(bl key).length=key.size:=rfl;omega)
 have hN1:N≤14:=by rw [hN];exact h.out.hgt hk hpt hon.mem
 obtain ⟨R0,x1,nd,q,f,hR,hx,hnF,hq,hcs,hnb,hf,hpg,hget,hmemf⟩:=hTr.out.leafAt hon.mem (mT (mkAt key i))
 have hN0:0 < N:=by have:=(List.getElem?_eq_some_iff.1 hR).1;omega
 rw [← hN] at hpg
 have hmk:MkOK (mkAt key i):=mkOf_ok (keyAt key i)
 have hRe:=qh fun W=>mtRest_any key i (by omega) (by omega) W
 have hcov:=cov_of hf hmk (atK_mem hx).2
 have hfn:f.n≤6:=by have h9:=h.out.wy.wb.slim l hon.mem 0 R0 hR _ (atK_mem hx).1;simp only at h9;rw [hf.klen] at h9;exact h9
 have hMOK:=h.out.wy.ok
 have hso:is=true→s.m=mkAt key i∧SlOK s:=fun h9=>hMOK.slot hon.mem (mkOf_b _) (hist h9).1
 obtain ⟨rs,hrs⟩:∃ r,r=bs (keyAt key (i+1)):=⟨_,rfl⟩
 rw [← hrs] at hRe
 have hvl:f.bn.vals.length=f.bn.keys.length:=by rw [hf.klen];exact hf.len
 have hcg:=find_cget hMOK h.out.ct hon hrs hist hisf
 have hhas:=find_has hget hist hisf hvl
 have hAt:Hid (∀ W L,MS w0 w T W T L→W.heap[q]?=some (.cells (.int .u64 x1.2::.bool true::(lfc f++zic)).toArray 192)):=qh fun W L hS=>by have:=hS.am.at hnF hq;rw [hcs] at this;exact this
 have hG:Hid (∀ W L,MS w0 w T W T L→Calls Tryz.prog 62 #[.pointer (some ⟨A,0,none⟩),.agg #[.int .i64 x1.1,.int .u64 x1.2]] W fun y W'=>y=.returned (.tuple #[.pointer (some ⟨q,1,none⟩),.bool true])∧Below W.heap.size W W'):=qh fun W L hS=>by rw [hAe.out];exact hS.getQ hq
 have hcl:=lfc_len hf.S
 obtain ⟨cs,hcse⟩:∃ c,c=lfc f:=⟨_,rfl⟩
 obtain ⟨y,hy⟩:∃ c,c=zic:=⟨_,rfl⟩
 have hylen:y.length=8:=by rw [hy];rfl
 rw [← hcse,← hy] at hAt
 rw [← hcse] at hcl
 obtain ⟨m,hm⟩:∃ m,m=mkAt key i:=⟨_,rfl⟩
 have hplen:=pathOf_len l.Ls (mT (mkAt key i))
 rw [← hN] at hplen
 have hpk:Hid (∀ W:World,W.heap[pa]?=some po→W.cell? ⟨pa,(N - 1)*2,none⟩=some (.int .i64 x1.1)∧W.cell? ⟨pa,(N - 1)*2+1,none⟩=some (.int .u64 x1.2)∧pa < W.heap.size∧N≤pc):=qh fun W hW=>by
  obtain ⟨b',c',ev,_,_,_,h5,_,_,hat⟩:=(hrow W hW).at hpg;injection ev with ev _ ev2;injection ev with ev;injection ev with ev;subst ev ev2;exact ⟨hat 0 _ rfl,hat 1 _ rfl,heap_lt hW,by omega⟩
 have hNc:=(hpk.out w2 (hS2.nth 0 rfl)).2.2.2
 replace hrow:=qh hrow
 replace hpg:=qh hpg
 replace hR:=qh hR
 replace hx:=qh hx
 replace hnF:=qh hnF
 replace hq:=qh hq
 replace hcs:=qh hcs
 replace hnb:=qh hnb
 replace hf:=qh hf
 replace hget:=qh hget
 replace hmemf:=qh hmemf
 replace hmk:=qh hmk
 replace hcov:=qh hcov
 replace hfn:=qh hfn
 replace hMOK:=qh hMOK
 replace hso:=qh hso
 replace hrs:=qh hrs
 replace hcg:=qh hcg
 replace hhas:=qh hhas
 replace hcse:=qh hcse
 replace hy:=qh hy
 replace hcl:=qh hcl
 replace hylen:=qh hylen
 replace hm:=qh hm
 replace hN:=qh hN
 replace hon:=qh hon
 replace hup:=qh hup
 replace hist:=qh hist
 replace hisf:=qh hisf
 replace hpr:=qh hpr
 replace hpge:=qh hpge
 replace hvl:=qh hvl
 replace hplen:=qh hplen
 clear hA2 hE2
 go_upto_region 4 with fail
 rw [← hN.out]
 have hS3:=(hS2.box (.cells #[.int .i64 ((i:Nat):Int),.slice (some ⟨pa,0,none⟩) N pc,.int .i64 up.1,.int .u64 up.2,.int .u64 ((mk.s:Nat):Int),.int .u8 ((mk.c:Nat):Int)] 120)).box (.cells #[.int .u64 ((s.m.s:Nat):Int),.int .u8 ((s.m.c:Nat):Int),.string s.rest,.string s.val,.bool s.deep,.int .i64 s.link.1,.int .u64 s.link.2] 92)
 have q1:(w2.alloc (.cells #[.int .i64 ((i:Nat):Int),.slice (some ⟨pa,0,none⟩) N pc,.int .i64 up.1,.int .u64 up.2,.int .u64 ((mk.s:Nat):Int),.int .u8 ((mk.c:Nat):Int)] 120)).heap.size=w2.heap.size+1:=by simp
 rw [q1] at hS3
 clear q1
 generalize (w2.alloc (.cells #[.int .i64 ((i:Nat):Int),.slice (some ⟨pa,0,none⟩) N pc,.int .i64 up.1,.int .u64 up.2,.int .u64 ((mk.s:Nat):Int),.int .u8 ((mk.c:Nat):Int)] 120)).alloc (.cells #[.int .u64 ((s.m.s:Nat):Int),.int .u8 ((s.m.c:Nat):Int),.string s.rest,.string s.val,.bool s.deep,.int .i64 s.link.1,.int .u64 s.link.2] 92)=w3 at *
 obtain ⟨PB,hPB⟩:∃ b,b=w2.heap.size:=⟨_,rfl⟩
 obtain ⟨SB,hSB⟩:∃ b,b=w2.heap.size+1:=⟨_,rfl⟩
 rw [← hSB,← hPB] at hS3 ⊢
 replace hPB:=qh hPB
 replace hSB:=qh hSB
 replace hS3:=qh hS3
 cases is
 ·skip
  have hcn:M.cget C key=none:=by rw [hcg.out,if_neg (fun e=>by cases e.1)]
  replace hcn:=qh hcn;have hSd:=hS3.out.drew;refine wp_region_late [] (S:=fun W'=>W'.heap[PB]?=some (.cells #[.int .i64 ((i:Nat):Int),.slice (some ⟨pa,0,none⟩) N pc,.int .i64 up.1,.int .u64 up.2,.int .u64 ((mk.s:Nat):Int),.int .u8 ((mk.c:Nat):Int)] 120)∧W'.heap[SB]?=some (.cells #[.int .u64 ((s.m.s:Nat):Int),.int .u8 ((s.m.c:Nat):Int),.string s.rest,.string s.val,.bool s.deep,.int .i64 s.link.1,.int .u64 s.link.2] 92)) rfl (⟨hSd.nth 1 rfl,hSd.nth 0 rfl⟩) (fun hHeld=>?_)
  try dsimp only at hHeld
  refine tkW 0 ?_;refine tkW 1 ?_;refine tkW 2 ?_;refine nkW 3 ?_;refine nkW 4 ?_;refine nkW 5 ?_;refine nkW 6 ?_;refine nkW 7 ?_;refine rdM 8 ?_;intro K hK;rw [if_neg (by intro h;cases h)];have hS1:=hHeld;refine hK.out _ _ (fun _ _=>hS1) ?_;clear hHeld hK K;have hHeld:=hS1;clear hS1
  try simp only [Act.put,zs1,zs2,zs3]
  try simp only [Act.put]
  refine nkW 9 ?_;refine tkW 10 ?_;refine wpAnyM_done (by kernel_rfl) ?_ _
  try simp only [Exit.then]
  clear hHeld;replace hcn:=hcn.out;go_wp2_with fail;refine bodyPost_ret (v:=.tuple #[.string ⟨#[]⟩,.bool false]) (by simp [results,Tryz.results23,go_sem]) rfl ⟨by rw [hcn];rfl,T,Y,?_,hSd.ev,⟨EvoY.refl _,rfl⟩⟩;rw [cdel_none hcn];exact h.out.on hSd.am
 ·skip
  by_cases hrr:s.rest=rs
  ·skip
   have hrq:(s.rest.toList == rs.toList)=true:=by rw [hrr];simp
   have hrq2:(s.rest.toList != rs.toList)=false:=by rw [hrr];simp
   have hrr2:=qh hrr;clear hrr;have hSd:=hS3.out.drew;refine wp_region_late [] (S:=fun W'=>W'.heap[PB]?=some (.cells #[.int .i64 ((i:Nat):Int),.slice (some ⟨pa,0,none⟩) N pc,.int .i64 up.1,.int .u64 up.2,.int .u64 ((mk.s:Nat):Int),.int .u8 ((mk.c:Nat):Int)] 120)∧W'.heap[SB]?=some (.cells #[.int .u64 ((s.m.s:Nat):Int),.int .u8 ((s.m.c:Nat):Int),.string s.rest,.string s.val,.bool s.deep,.int .i64 s.link.1,.int .u64 s.link.2] 92)) rfl (⟨hSd.nth 1 rfl,hSd.nth 0 rfl⟩) (fun hHeld=>?_)
   try dsimp only at hHeld
   refine tkW 0 ?_;refine tkW 1 ?_;refine tkW 2 ?_;refine tkW 3 ?_;refine tkM 4 ?_ (hz:=by rintro w ⟨e1,e2⟩;obtain ⟨d0,d1,d2,d3,d4,d5,d6,d7⟩:=box6 e1;obtain ⟨b0,b1,b2,b3,b4,b5,b6,b7⟩:=box7 e2;exact zf);refine tkW 5 ?_;refine tkW 6 ?_;refine tkM 7 ?_ (hz:=by rintro w ⟨e1,e2⟩;obtain ⟨d0,d1,d2,d3,d4,d5,d6,d7⟩:=box6 e1;obtain ⟨b0,b1,b2,b3,b4,b5,b6,b7⟩:=box7 e2;exact zf);refine rdM 8 ?_;intro K hK;go_simp;go_at_call 55;refine (hRe.out _).mono ?_;rintro z6 w4 ⟨rfl,rfl⟩;have hS9y:=hHeld;have hS4:=qh hSd;go_wp2_with fail;refine hK.out _ _ (fun _ _=>hS9y) ?_;clear hHeld hK K;have hHeld:=hS9y;clear hS9y
   try simp only [Act.put,zs1,zs2,zs3]
   try simp only [Act.put]
   refine tkW 9 ?_;refine tkW 10 ?_;refine wpAnyM_done (by kernel_rfl) ?_ _
   try simp only [Exit.then]
   clear hHeld;go_upto_region 6 with fail;clear hrq hrq2;obtain ⟨p,hp⟩:∃ p,p=N - 1:=⟨_,rfl⟩;rw [← hp] at hpk;have hw1:IntKind.i64.wrap ((N:Int) - 1)=(p:Int):=by rw [show ((N:Int) - 1)=(p:Int) by omega];exact IntWalk.i64_in _ (by omega)
   have hp1:p < N:=by omega
   have hp2:(p:Int) < (N:Int):=by omega
   replace hp:=qh hp;have hSd6:=hS4.out.drew;refine wp_region_late [] (S:=fun W'=>W'.cell? ⟨T.t,1,none⟩=some (.pointer (some ⟨A,0,none⟩))∧W'.heap[PB]?=some (.cells #[.int .i64 ((i:Nat):Int),.slice (some ⟨pa,0,none⟩) N pc,.int .i64 up.1,.int .u64 up.2,.int .u64 ((mk.s:Nat):Int),.int .u8 ((mk.c:Nat):Int)] 120)∧W'.heap[pa]?=some po) rfl (⟨by rw [hAe.out];exact hSd6.tree,hSd6.nth 1 rfl,hSd6.nth 2 rfl⟩) (fun hHeld=>?_)
   try dsimp only at hHeld
   refine tkW 0 ?_;refine tkW 1 ?_;refine tkW 2 ?_;refine tkM 3 ?_ (hz:=by rintro w ⟨e1,e2,e3⟩;obtain ⟨d0,d1,d2,d3,d4,d5,d6,d7⟩:=box6 e2;obtain ⟨k0,k1,kl,_⟩:=hpk.out _ e3;exact zf);refine tkW 4 ?_;refine tkM 5 ?_ (hz:=by rintro w ⟨e1,e2,e3⟩;obtain ⟨d0,d1,d2,d3,d4,d5,d6,d7⟩:=box6 e2;obtain ⟨k0,k1,kl,_⟩:=hpk.out _ e3;exact zf);refine tkW 6 ?_;refine tkM 7 ?_ (hz:=by rintro w ⟨e1,e2,e3⟩;obtain ⟨d0,d1,d2,d3,d4,d5,d6,d7⟩:=box6 e2;obtain ⟨k0,k1,kl,_⟩:=hpk.out _ e3;exact zf);refine tkW 8 ?_;refine tkW 9 ?_;refine tkW 10 ?_;refine tkM 11 ?_ (hz:=by rintro w ⟨e1,e2,e3⟩;obtain ⟨d0,d1,d2,d3,d4,d5,d6,d7⟩:=box6 e2;obtain ⟨k0,k1,kl,_⟩:=hpk.out _ e3;exact zf);refine rdM 12 ?_;intro K hK;go_simp;go_at_call 62;refine (hG.out _ _ hSd6).mono ?_;rintro z3 w5 ⟨rfl,hb⟩;have hSe:=hSd6.below hb;clear hb;have hS9y:w5.cell? ⟨T.t,1,none⟩=some (.pointer (some ⟨A,0,none⟩))∧w5.heap[PB]?=some (.cells #[.int .i64 ((i:Nat):Int),.slice (some ⟨pa,0,none⟩) N pc,.int .i64 up.1,.int .u64 up.2,.int .u64 ((mk.s:Nat):Int),.int .u8 ((mk.c:Nat):Int)] 120)∧w5.heap[pa]?=some po:=⟨by rw [hAe.out];exact hSe.tree,hSe.nth 1 rfl,hSe.nth 2 rfl⟩;replace hSe:=qh hSe;go_wp2_with fail;refine hK.out _ _ (fun _ _=>hS9y) ?_;clear hHeld hK K;have hHeld:=hS9y;clear hS9y
   try simp only [Act.put,zs1,zs2,zs3]
   try simp only [Act.put]
   refine tkW 13 ?_;refine tkW 14 ?_;refine tkW 15 ?_;refine tkW 16 ?_;refine tkW 17 ?_;refine wpAnyM_done (by kernel_rfl) ?_ _
   try simp only [Exit.then]
   clear hHeld hSd6 hw1 hp1 hp2;have hgi:=hist.out (by first | rfl | trivial);obtain ⟨hsm,hsok⟩:=hso.out (by first | rfl | trivial);rw [← hm.out] at hsm
   have hDe:Hid (∀ W,Calls Tryz.prog 70 #[.agg cs.toArray,.agg #[.int .u64 ((s.m.s:Nat):Int),.int .u8 ((s.m.c:Nat):Int)]] W fun e w'=>∃ (cl co:List Value) (g:LF),e=.returned (.tuple #[.agg cl.toArray,.agg co.toArray,.bool true])∧cl=lfc g∧LFOK g∧g.bn=f.bn.del (mT m)∧Below W.heap.size W w'):=qh fun W=>by
    have hh:=hhas.out;rw [← hm.out] at hh;have hdl:=hf.out.del (m:=m) (by rw [hm.out];exact hmk.out) hh;have h9:=lfDelete_any f hf.out m (by rw [hm.out];exact hmk.out) hh W;unfold lfV slV mkV at h9;rw [hsm,hcse.out];refine h9.mono ?_;rintro e w' ⟨rfl,hb⟩;exact ⟨_,_,_,rfl,rfl,hdl.1,hdl.2,hb⟩
   replace hsm:=qh hsm;replace hsok:=qh hsok;replace hgi:=qh hgi;go_upto_region 7 with fail;have hSd7:=hSe.out.drew;refine wp_region_late [14] (S:=fun W'=>W'.heap[q]?=some (.cells (.int .u64 x1.2::.bool true::(cs++y)).toArray 192)∧W'.heap[SB]?=some (.cells #[.int .u64 ((s.m.s:Nat):Int),.int .u8 ((s.m.c:Nat):Int),.string s.rest,.string s.val,.bool s.deep,.int .i64 s.link.1,.int .u64 s.link.2] 92)) rfl (⟨hAt.out _ _ hSd7,hSd7.nth 0 rfl⟩) (fun hHeld=>?_)
   try dsimp only at hHeld
   refine tkW 0 ?_;refine tkW 1 ?_;refine tkW 2 ?_;refine tkW 3 ?_;refine ykM 4 ?_ (hy:=yieldsIf_load_mid (by rfl) 95 (.tmp 57) rfl q 2 (by rfl) cs _ (fun w hw=>range_mid hw.1 hcl.out) Tryz.underlying95 rfl (by rw [hcl.out];kernel_rfl));refine tkW 5 ?_;refine tkM 6 ?_ (hz:=by rintro w ⟨e1,e2⟩;obtain ⟨b0,b1,b2,b3,b4,b5,b6,b7⟩:=box7 e2;exact zf);refine rdM 7 ?_;intro K hK;go_simp;go_at_call 70;refine (hDe.out _).mono ?_;rintro z6 w6 ⟨cl,co,g,rfl,hcl2,hg,hgb,hb⟩;have hS6:=hSd7.below hb;clear hb;have hS9y:w6.heap[q]?=some (.cells (.int .u64 x1.2::.bool true::(cs++y)).toArray 192)∧w6.heap[SB]?=some (.cells #[.int .u64 ((s.m.s:Nat):Int),.int .u8 ((s.m.c:Nat):Int),.string s.rest,.string s.val,.bool s.deep,.int .i64 s.link.1,.int .u64 s.link.2] 92):=⟨hAt.out _ _ hS6,hS6.nth 0 rfl⟩;replace hS6:=qh hS6;replace hcl2:=qh hcl2;replace hg:=qh hg;replace hgb:=qh hgb;go_wp2_with fail;refine hK.out _ _ (fun _ _=>hS9y) ?_;clear hHeld hK K;have hHeld:=hS9y;clear hS9y
   try simp only [Act.put,zs1,zs2,zs3]
   try simp only [Act.put]
   refine tkW 8 ?_;refine tkW 9 ?_;refine tkW 10 ?_;refine tkW 11 ?_;refine tkW 12 ?_;refine tkW 13 ?_;refine rdM 14 ?_;intro K hK;rw [if_pos (by rfl)];have hc:=hAt.out _ _ hS6.out;have hlen:cl.length=111:=by rw [hcl2.out];exact lfc_len hg.out.S
   have th:=mn_there (o:=2) (n:=cl.toArray.size) hc (by simp [hcl.out,hylen.out,hlen]);refine wp_store_mid 95 (.tmp 66) (.tmp 62) rfl q 2 cl.toArray (by rfl) (by rfl) th (by rw [List.size_toArray,hlen];kernel_rfl) (by rw [hcl2.out];exact lfc_one g) ?_;have hst:=mn_set_leaf hc (vs:=cl) (by rw [hlen,hcl.out]);have hN8:NewND (w6.setCells q 2 cl) 0 (leafN g):=NewND.leaf hg.out;obtain ⟨T3,hS7,ev3,f3,n3,l3,r3,g3⟩:=hS6.out.store (x:=leafN g) hnF.out hq.out hN8 (fun b hb=>by cases hb) (hb_upd w6 q 2 cl) (by rw [show (leafN g).cs=.bool true::(lfc g++zic) from rfl,← hcl2.out,← hy.out];exact hst);clear hst th hc hN8;rw [show cl.toArray.toList=cl from rfl];generalize w6.setCells q 2 cl=w7 at *;replace hS7:=qh hS7;replace ev3:=qh ev3;replace f3:=qh f3;replace n3:=qh n3;replace l3:=qh l3;replace r3:=qh r3;replace g3:=qh g3;replace hlen:=qh hlen;refine hK.out _ _ (fun h=>by cases h) ?_;clear hK K
   try simp only [Act.put,zs1,zs2,zs3]
   try simp only [Act.put]
   refine wpAnyM_done (by kernel_rfl) ?_ _
   try simp only [Exit.then]
   clear hSd7;have hcc:=hcg.out;rw [if_pos ⟨by first | rfl | trivial,hrr2.out⟩] at hcc;have hC1:1≤C.length:=(cdel_len h.out.ct.srt key).2 (by rw [hcc];rfl);have hsk:keyAt key i=sb s:=by rw [part_rest hsok.out hgi.out.2 (by rw [hsm.out,hm.out]),hrr2.out,hrs.out,bl_bs]
   obtain ⟨Y4,d1,d2,d3,d4,d5,d6⟩:=h.out.delL hon.out hgi.out.1 hgi.out.2 hsk hR.out hx.out hS7.out.am f3.out (by rw [hgb.out,hm.out]) l3.out r3.out;have hwr:IntKind.i64.wrap ((C.length:Int) - 1)=(C.length:Int) - 1:=IntWalk.i64_in _ (by omega);have hblk:w7.heap[T.t]?=some (.cells (treeC T3.P.1 T3.d.A.a T3.r C.length T3.ly) 73):=by have:=hS7.out.am.blk;rw [hS7.out.ev.t,n3.out,h.out.n] at this;exact this
   have c4:w7.cell? ⟨T.t,4,none⟩=some (.int .i64 (C.length:Int)):=by rw [cell_of_heap hblk];rfl
   have cf:=frozen_of_heap hblk;have ctl:=heap_lt hblk;have hu9:Upd [T3.t] w7 (w7.setCell ⟨T.t,4,none⟩ (.int .i64 ((C.length:Int) - 1))):=(Upd.refl [T3.t] w7).setCell (p:=⟨T.t,4,none⟩) (by rw [hS7.out.ev.t];simp) _;have hb9:(w7.setCell ⟨T.t,4,none⟩ (.int .i64 ((C.length:Int) - 1))).heap[T3.t]?=some (.cells (treeC T3.P.1 T3.d.A.a T3.r (C.length - 1) T3.ly) 73):=by rw [hS7.out.ev.t,heap_set_same hblk 4 _,show ((C.length:Int) - 1)=((C.length - 1:Nat):Int) by omega];rfl
   obtain ⟨a9,ev9⟩:=hS7.out.am.own T3.r (C.length - 1) T3.ly hu9 hb9;have hsb:SB≠T.t:=fun e=>by have h1:=hS7.out.nth 0 rfl;rw [e,hblk] at h1;injection h1 with h1;injection h1 with _ h2;revert h2;decide
   obtain ⟨b0,b1,b2,b3,b4,b5,b6,b7⟩:=box7 (hu9.heap (hS7.out.nth 0 rfl) (by rw [hS7.out.ev.t];simpa using hsb));obtain ⟨a0,a1,a2,a3,a4,a5,a6,a7⟩:=box7 (hS7.out.nth 0 rfl);have hfinal:Hid (DelE w0 w T Y C k pt key (.returned (.tuple #[.string s.val,.bool true])) (w7.setCell ⟨T.t,4,none⟩ (.int .i64 ((C.length:Int) - 1)))):=qh ⟨by rw [hcc];rfl,_,Y4,⟨d1.same a9 rfl,d2,d3,d4,d5,?_⟩,hS7.out.ev.trans ev9,d6⟩
   rotate_left 1
   ·show C.length - 1=_
    rw [(cdel_len h.out.ct.srt key).1,hcc];rfl
   clear hu9 hb9 a9 ev9 d1 d2 d3 d4 d5 d6;replace hcc:=qh hcc;replace hblk:=qh hblk;go_wp2_with fail;refine bodyPost_ret (v:=.tuple #[.string s.val,.bool true]) (by simp [results,Tryz.results23,go_sem]) rfl hfinal.out
  ·skip
   have hrq:(s.rest.toList == rs.toList)=false:=by have:¬ s.rest.toList=rs.toList:=fun e=>hrr (toList_inj e);simpa using this
   have hrq2:(s.rest.toList != rs.toList)=true:=by have:¬ s.rest.toList=rs.toList:=fun e=>hrr (toList_inj e);simpa using this
   have hcn:M.cget C key=none:=by rw [hcg.out,if_neg (fun e=>hrr e.2)]
   replace hcn:=qh hcn;replace hrr:=qh hrr;have hSd:=hS3.out.drew;refine wp_region_late [] (S:=fun W'=>W'.heap[PB]?=some (.cells #[.int .i64 ((i:Nat):Int),.slice (some ⟨pa,0,none⟩) N pc,.int .i64 up.1,.int .u64 up.2,.int .u64 ((mk.s:Nat):Int),.int .u8 ((mk.c:Nat):Int)] 120)∧W'.heap[SB]?=some (.cells #[.int .u64 ((s.m.s:Nat):Int),.int .u8 ((s.m.c:Nat):Int),.string s.rest,.string s.val,.bool s.deep,.int .i64 s.link.1,.int .u64 s.link.2] 92)) rfl (⟨hSd.nth 1 rfl,hSd.nth 0 rfl⟩) (fun hHeld=>?_)
   try dsimp only at hHeld
   refine tkW 0 ?_;refine tkW 1 ?_;refine tkW 2 ?_;refine tkW 3 ?_;refine tkM 4 ?_ (hz:=by rintro w ⟨e1,e2⟩;obtain ⟨d0,d1,d2,d3,d4,d5,d6,d7⟩:=box6 e1;obtain ⟨b0,b1,b2,b3,b4,b5,b6,b7⟩:=box7 e2;exact zf);refine tkW 5 ?_;refine tkW 6 ?_;refine tkM 7 ?_ (hz:=by rintro w ⟨e1,e2⟩;obtain ⟨d0,d1,d2,d3,d4,d5,d6,d7⟩:=box6 e1;obtain ⟨b0,b1,b2,b3,b4,b5,b6,b7⟩:=box7 e2;exact zf);refine rdM 8 ?_;intro K hK;go_simp;go_at_call 55;refine (hRe.out _).mono ?_;rintro z6 w4 ⟨rfl,rfl⟩;have hS9y:=hHeld;have hS4:=qh hSd;go_wp2_with fail;refine hK.out _ _ (fun _ _=>hS9y) ?_;clear hHeld hK K;have hHeld:=hS9y;clear hS9y
   try simp only [Act.put,zs1,zs2,zs3]
   try simp only [Act.put]
   refine tkW 9 ?_;refine tkW 10 ?_;refine wpAnyM_done (by kernel_rfl) ?_ _
   try simp only [Exit.then]
   clear hHeld;replace hcn:=hcn.out;go_wp2_with fail;refine bodyPost_ret (v:=.tuple #[.string ⟨#[]⟩,.bool false]) (by simp [results,Tryz.results23,go_sem]) rfl ⟨by rw [hcn];rfl,T,Y,?_,hS4.out.ev,⟨EvoY.refl _,rfl⟩⟩;rw [cdel_none hcn];exact h.out.on hS4.out.am
open Go.RowKit
theorem mk0_ok:MkOK ⟨0,0⟩:=⟨by decide,by decide,fun _=>by decide⟩
theorem hi_ok {f:LF} (h:LFOK f):MkOK f.hi:=by
 have hh:=h.hi
 cases hb:f.bnd
 ·rw [hb] at hh
  simp only [Bool.false_eq_true,if_false] at hh;rw [hh];exact mk0_ok
 ·rw [hb,if_pos rfl] at hh
  exact hh
section
variable {w W:World} {x:ND} {q:Nat} {g:Value} {t:TypeId}
theorem LfAt.ends {f:LF} {o:Nat} (h:LfAt w q o f) (hS:f.S.length=15):w.rangeAt q (o+1+106) [.int .u64 ((f.hi.s:Nat):Int),.int .u8 ((f.hi.c:Nat):Int),.bool f.bnd,.int .i64 f.nx.1,.int .u64 f.nx.2]:=by
 refine rng_end (A:=.int .u64 ((pw f.n f.o:Nat):Int)::f.S.flatMap slc) ?_ (by rw [List.length_cons,slcs_len,hS])
 have:=h.leaf
 unfold lfc at this
 simpa using this
set_option maxRecDepth 100000 in
set_option maxHeartbeats 1000000 in
theorem nd_high_leaf {f:LF} (h:LfAt w q 1 f) (hf:LFOK f):Calls Tryz.prog 140 #[.pointer (some ⟨q,1,none⟩)] w fun e w'=>e=.returned (.tuple #[.string (mT f.hi),.bool f.bnd])∧Below w.heap.size w w':=by
 have hr:=h.ends hf.S
 have e0:=hr 0 _ rfl
 have e1:=hr 1 _ rfl
 have e2:=hr 2 _ rfl
 have hTx:=qh fun W=>mkText_any f.hi (hi_ok hf) W
 unfold mkV at hTx
 have c0:=h.low
 have hql:=h.lt
 obtain ⟨tx,htx⟩:∃ x,x=mT f.hi:=⟨_,rfl⟩
 rw [← htx] at hTx ⊢
 obtain ⟨m,hm⟩:∃ x,x=f.hi:=⟨_,rfl⟩
 rw [← hm] at hTx e0 e1
 obtain ⟨bd,hbd⟩:∃ x,x=f.bnd:=⟨_,rfl⟩
 rw [← hbd] at e2 ⊢
 simp only [show 1+1+106+0=108 from rfl,show 1+1+106+1=109 from rfl,show 1+1+106+2=110 from rfl] at e0 e1 e2
 replace htx:=qh htx
 replace hm:=qh hm
 replace hbd:=qh hbd
 clear h hf hr
 go_enter Tryz.func140,Tryz.ntmps140
 go_upto_region 2 with fail
 refine wp_region_late [] (S:=fun W'=>W'.cell? ⟨q,108,none⟩=some (.int .u64 ((m.s:Nat):Int))∧W'.cell? ⟨q,109,none⟩=some (.int .u8 ((m.c:Nat):Int))∧W'.cell? ⟨q,110,none⟩=some (.bool bd)) rfl (⟨e0,e1,e2⟩) (fun hHeld=>?_)
 try dsimp only at hHeld
 refine tkW 0 ?_
 refine tkW 1 ?_
 refine tkW 2 ?_
 refine tkW 3 ?_
 refine tkM 4 ?_ (hz:=by rintro w ⟨f0,f1,f2⟩;exact zf)
 refine tkW 6 ?_
 refine tkW 7 ?_
 refine tkW 8 ?_
 refine tkW 9 ?_
 refine tkM 10 ?_ (hz:=by rintro w ⟨f0,f1,f2⟩;exact zf)
 refine rdM 5 ?_
 intro K hK
 go_simp
 go_at_call 97
 refine (hTx.out _).mono ?_
 rintro z w2 ⟨rfl,hb⟩
 have hb2:Below w.heap.size w w2:=(Below.refl w.heap.size w).drew.trans hb
 have hS1:w2.cell? ⟨q,108,none⟩=some (.int .u64 ((m.s:Nat):Int))∧w2.cell? ⟨q,109,none⟩=some (.int .u8 ((m.c:Nat):Int))∧w2.cell? ⟨q,110,none⟩=some (.bool bd):=⟨keep hb2 e0,keep hb2 e1,keep hb2 e2⟩
 clear hb
 replace hb2:=qh hb2
 go_wp2_with fail
 refine hK.out _ _ (fun _ _=>hS1) ?_
 clear hHeld hK K
 have hHeld:=hS1
 clear hS1
 try simp only [Act.put,zs1,zs2,zs3]
 try simp only [Act.put]
 refine tkW 11 ?_
 refine tkW 12 ?_
 refine wpAnyM_done (by kernel_rfl) ?_ _
 try simp only [Exit.then]
 clear hHeld
 go_wp2_with fail
 go_ret2
 exact ⟨rfl,hb2.out⟩
set_option maxRecDepth 100000 in
set_option maxHeartbeats 1000000 in
theorem nd_high_inn {ic:List Value} {B:List Nat} {b:BN Sl} (h:InAt w q 1 ic) (hI:InC w B ic (down b)):Calls Tryz.prog 140 #[.pointer (some ⟨q,1,none⟩)] w fun e w'=>e=.returned (.tuple #[.string b.high,.bool b.bnd])∧Below w.heap.size w w':=by
 obtain ⟨ka,kc,va,vc,ha,hc,rfl,_,_⟩:=hI.cells
 have e4:=h.inn 4 _ rfl
 have e5:=h.inn 5 _ rfl
 simp only [show 1+112+4=117 from rfl,show 1+112+5=118 from rfl] at e4 e5
 have c0:=h.low
 have hql:=h.lt
 obtain ⟨hg,hhg⟩:∃ x,x=(down b).high:=⟨_,rfl⟩
 obtain ⟨bd,hbd⟩:∃ x,x=(down b).bnd:=⟨_,rfl⟩
 rw [← hhg] at e4
 rw [← hbd] at e5
 rw [show b.high=hg from hhg.symm,show b.bnd=bd from hbd.symm]
 replace hhg:=qh hhg
 replace hbd:=qh hbd
 clear h hI
 go_enter Tryz.func140,Tryz.ntmps140
 go_upto_region 3 with fail
 refine wp_region_late [] (S:=fun W'=>W'.cell? ⟨q,117,none⟩=some (.string hg)∧W'.cell? ⟨q,118,none⟩=some (.bool bd)) rfl (⟨e4,e5⟩) (fun hHeld=>?_)
 try dsimp only at hHeld
 refine tkW 0 ?_
 refine tkW 1 ?_
 refine tkW 2 ?_
 refine tkW 3 ?_
 refine tkM 4 ?_ (hz:=by rintro w ⟨f0,f1⟩;exact zf)
 refine tkW 5 ?_
 refine tkW 6 ?_
 refine tkW 7 ?_
 refine tkW 8 ?_
 refine tkM 9 ?_ (hz:=by rintro w ⟨f0,f1⟩;exact zf)
 refine tkW 10 ?_
 refine tkW 11 ?_
 refine wpAnyM_done (by kernel_rfl) ?_ _
 try simp only [Exit.then]
 clear hHeld
 go_wp2_with fail
 go_ret2
 exact ⟨rfl,(Below.refl w.heap.size w).drew⟩
theorem Seen.high (hs : Seen w x) (hc : w.heap[q]? = some (.cells (g :: x.cs).toArray t)) (hW : Below w.heap.size w W) : Calls Tryz.prog 140 #[.pointer (some ⟨q, 1, none⟩)] W fun e w' =>
    ∃ hv:Str,e=.returned (.tuple #[.string hv,.bool x.bn.bnd])∧(x.bn.bnd=true→hv=x.bn.high)∧Below W.heap.size W w':=by
 have h1:=rng1 (Below.heap' hW hc)
 rcases (hs.below hW).cases with ⟨f,s1,s2,s3,s4⟩ | ⟨s1,s2,s3,ic,B,s4,s5⟩
 ·rw [s4] at h1
  refine (nd_high_leaf (LfAt.of h1) s3).mono ?_;rintro e w' ⟨rfl,hb⟩;refine ⟨_,by rw [s1];rfl,fun h9=>?_,hb⟩;rw [s1] at h9 ⊢
  show _=if f.bnd then mT f.hi else s0
  rw [if_pos (show f.bnd=true from h9)]
 ·rw [s4] at h1
  refine (nd_high_inn (InAt.of h1) s5).mono ?_;rintro e w' ⟨rfl,hb⟩;exact ⟨_,rfl,fun _=>rfl,hb⟩
set_option maxRecDepth 100000 in
set_option maxHeartbeats 1000000 in
theorem nd_right_leaf {f:LF} (h:LfAt w q 1 f) (hf:LFOK f) (h6:f.n≤6):Calls Tryz.prog 139 #[.pointer (some ⟨q,1,none⟩)] w fun e w'=>e=.returned (.bool true)∧Below w.heap.size w w':=by
 have hl:=lfc_len hf.S
 have hC:=qh fun W=>lfRight_any f hf W
 have hF:=qh fun W=>lfFull_any f hf W
 rw [show decide (6 < f.n)=false by simp;omega] at hF
 have hr:=h.leaf
 have hql:=h.lt
 have c0:=h.low
 unfold lfV at hC hF
 obtain ⟨cs,hcs⟩:∃ cs,cs=lfc f:=⟨_,rfl⟩
 rw [← hcs] at hl hC hF hr
 replace hcs:=qh hcs
 replace hl:=qh hl
 replace hr:=qh hr
 clear h hf
 go_enter Tryz.func139,Tryz.ntmps139
 go_wp2_with (refine wpList_load_mid rfl 95 (.tmp 9) rfl q 2 (by rfl) cs _ hr.out Tryz.underlying95 rfl (by rw [hl.out];kernel_rfl) ?_)
 refine (hC.out _).mono ?_
 rintro e w1 ⟨rfl,hb⟩
 have hr1:=qh (rng_below hr.out hb)
 replace hb:=qh hb
 go_wp2_with (refine wpList_load_midg (by rfl) 95 (.tmp 15) rfl q 2 (by rfl) cs _ hr1.out Tryz.underlying95 rfl (by rw [hl.out];kernel_rfl) ?_)
 refine (hF.out _).mono ?_
 rintro e w2 ⟨rfl,hb2⟩
 replace hb2:=qh hb2
 go_wp2_with fail
 go_ret
 exact ⟨rfl,hb.out.trans (hb2.out.mono hb.out.size)⟩
set_option maxRecDepth 100000 in
set_option maxHeartbeats 1000000 in
theorem nd_right_inn {ic:List Value} {B:List Nat} {b:BN Sl} {lo:Str} (h:InAt w q 1 ic) (hI:InC w B ic (down b)) (ho:NodeOK lo b) (hlf:b.leaf=false) (h4:b.keys.length≤4):Calls Tryz.prog 139 #[.pointer (some ⟨q,1,none⟩)] w fun e w'=>e=.returned (.bool true)∧Below w.heap.size w w':=by
 have hC:=qh fun W (hW:Below w.heap.size w W)=>(hI.below hW).right (down_ok ho hlf) (show b.keys.length≤1000 by omega)
 have hF:=qh fun W (hW:Below w.heap.size w W)=>(hI.below hW).full
 rw [show decide (4 < (down b).keys.length)=false by simp;exact h4] at hF
 have hl:=hI.len
 have e0:w.cell? ⟨q,113,none⟩=some (.bool false):=by
  obtain ⟨ka,kc,va,vc,ha,hc,rfl,_,_⟩:=hI.cells;exact h.inn 0 _ rfl
 have hr:=h.inn
 have hql:=h.lt
 have c0:=h.low
 replace hl:=qh hl
 replace hr:=qh hr
 clear h hI ho
 go_enter Tryz.func139,Tryz.ntmps139
 go_wp2_with (refine wpList_load_mid rfl 98 (.tmp 22) rfl q 113 (by rfl) ic _ hr.out Tryz.underlying98 rfl (by rw [hl.out];kernel_rfl) ?_)
 refine (hC.out _ (Below.refl _ _)).mono ?_
 rintro e w1 ⟨rfl,hb⟩
 have hr1:=qh (rng_below hr.out hb)
 have e1:=keep hb e0
 have hq1:q < w1.heap.size:=Nat.lt_of_lt_of_le hql hb.size
 replace hb:=qh hb
 go_wp2_with (refine wpList_load_midg (by rfl) 98 (.tmp 36) rfl q 113 (by rfl) ic _ hr1.out Tryz.underlying98 rfl (by rw [hl.out];kernel_rfl) ?_)
 refine (hF.out _ hb.out).mono ?_
 rintro e w2 ⟨rfl,hb2⟩
 replace hb2:=qh hb2
 go_wp2_with fail
 go_ret
 exact ⟨rfl,hb.out.trans (hb2.out.mono hb.out.size)⟩
theorem Seen.right (hs:Seen w x) (hc:w.heap[q]?=some (.cells (g::x.cs).toArray t)) (hk:x.bn.keys.length≤cap (if x.bn.leaf then 0 else 1)) (hW:Below w.heap.size w W):Calls Tryz.prog 139 #[.pointer (some ⟨q,1,none⟩)] W fun e w'=>e=.returned (.bool true)∧Below W.heap.size W w':=by
 have h1:=rng1 (Below.heap' hW hc)
 rcases (hs.below hW).cases with ⟨f,s1,s2,s3,s4⟩ | ⟨s1,⟨lo,s2⟩,s3,ic,B,s4,s5⟩
 ·rw [s4] at h1
  rw [s2,s1,s3.klen] at hk;exact nd_right_leaf (LfAt.of h1) s3 hk
 ·rw [s4] at h1
  rw [s1] at hk;exact nd_right_inn (InAt.of h1) s5 s2 s1 hk
set_option maxRecDepth 100000 in
set_option maxHeartbeats 1000000 in
theorem nd_least_leaf {f:LF} (h:LfAt w q 1 f) (hf:LFOK f):Calls Tryz.prog 141 #[.pointer (some ⟨q,1,none⟩)] w fun e w'=>e=.returned (.tuple #[.string (mT (f.slot 0).m),.bool (decide (0 < f.n))])∧Below w.heap.size w w':=by
 have hl:=lfc_len hf.S
 have hA:=qh fun W=>lfAt_any f hf 0 (Nat.zero_le _) W
 have hmk:MkOK (f.slot 0).m:=by
  rcases Nat.eq_zero_or_pos f.n with h0 | h0
  ·rw [hf.free 0 (by omega) (by omega)];exact mk0_ok
  ·exact (hf.sok h0).m
 have hTx:=qh fun W=>mkText_any (f.slot 0).m hmk W
 have hr:=h.leaf
 have hql:=h.lt
 have c0:=h.low
 unfold lfV slV at hA
 unfold mkV at hTx
 obtain ⟨cs,hcs⟩:∃ cs,cs=lfc f:=⟨_,rfl⟩
 rw [← hcs] at hl hA hr
 obtain ⟨s,hs⟩:∃ s,s=f.slot 0:=⟨_,rfl⟩
 rw [← hs] at hA hTx ⊢
 obtain ⟨bd,hbd⟩:∃ b,b=decide (0 < f.n):=⟨_,rfl⟩
 rw [← hbd] at hA ⊢
 obtain ⟨tx,htx⟩:∃ x,x=mT s.m:=⟨_,rfl⟩
 rw [← htx] at hTx ⊢
 replace hcs:=qh hcs
 replace hl:=qh hl
 replace hr:=qh hr
 replace hs:=qh hs
 replace hbd:=qh hbd
 replace htx:=qh htx
 clear h hf hmk
 go_enter Tryz.func141,Tryz.ntmps141
 go_wp2_with (refine wpList_load_mid rfl 95 (.tmp 28) rfl q 2 (by rfl) cs _ hr.out Tryz.underlying95 rfl (by rw [hl.out];kernel_rfl) ?_)
 refine (hA.out _).mono ?_
 rintro e w1 ⟨rfl,hb⟩
 have hB2:=qh (hb.alloc hb.size (.cells #[.int .u64 ((s.m.s:Nat):Int),.int .u8 ((s.m.c:Nat):Int),.string s.rest,.string s.val,.bool s.deep,.int .i64 s.link.1,.int .u64 s.link.2] 92))
 replace hb:=qh hb
 go_wp2_with fail
 refine (hTx.out _).mono ?_
 rintro e w2 ⟨rfl,hb2⟩
 replace hb2:=qh hb2
 go_wp2_with fail
 go_ret2
 exact ⟨rfl,hB2.out.trans (hb2.out.mono hB2.out.size)⟩
set_option maxRecDepth 100000 in
set_option maxHeartbeats 1000000 in
theorem nd_least_inn {ic:List Value} {B:List Nat} {b:BN Sl} (h:InAt w q 1 ic) (hI:InC w B ic (down b)):Calls Tryz.prog 141 #[.pointer (some ⟨q,1,none⟩)] w fun e w'=>e=.returned (.tuple #[.string (b.keys.getD 0 s0),.bool (decide (0 < b.keys.length))])∧w=w':=by
 obtain ⟨ka,kc,va,vc,ha,hc,rfl,hk,_⟩:=hI.cells
 have e1:=h.inn 1 _ rfl
 simp only [show 1+112+1=114 from rfl] at e1
 have c0:=h.low
 have hql:=h.lt
 rw [show (down b).keys=b.keys from rfl] at e1 hk
 obtain ⟨K,hK⟩:∃ K,K=b.keys:=⟨_,rfl⟩
 rw [← hK] at e1 hk ⊢
 replace hK:=qh hK
 clear h hI
 cases K with
 | nil =>
  go_enter Tryz.func141,Tryz.ntmps141
  go_wp2_with fail;go_ret2;exact ⟨rfl,rfl⟩
 | cons k K =>
  obtain ⟨b0,o0,rfl,hb0,hl1,hl2,hat⟩:=hk.str (by simp);have k0:=hat 0 k rfl;rw [Nat.add_zero] at k0;obtain ⟨n,hn⟩:∃ n,n=(k::K).length:=⟨_,rfl⟩;rw [← hn] at e1 ⊢;have hn0:0 < n:=by rw [hn];simp
  replace hn:=qh hn;have hz:((n:Int) == 0)=false:=by simp;omega
  have hz2:(0:Int) < (n:Int):=by omega
  have hz3:decide (0 < n)=true:=by simpa using hn0
  rw [hz3];clear hk hat hl1 hl2
  go_enter Tryz.func141,Tryz.ntmps141
  go_wp2_with fail;go_ret2;exact ⟨rfl,rfl⟩
theorem Seen.least (hs : Seen w x) (hc : w.heap[q]? = some (.cells (g :: x.cs).toArray t)) (hW : Below w.heap.size w W) : Calls Tryz.prog 141 #[.pointer (some ⟨q, 1, none⟩)] W fun e w' =>
    ∃ lv:Str,e=.returned (.tuple #[.string lv,.bool (decide (0 < x.bn.keys.length))])∧(0 < x.bn.keys.length→x.bn.keys[0]?=some lv)∧Below W.heap.size W w':=by
 have h1:=rng1 (Below.heap' hW hc)
 rcases (hs.below hW).cases with ⟨f,s1,s2,s3,s4⟩ | ⟨s1,s2,s3,ic,B,s4,s5⟩
 ·rw [s4] at h1
  rw [s1,s3.klen];refine (nd_least_leaf (LfAt.of h1) s3).mono ?_;rintro e w' ⟨rfl,hb⟩;exact ⟨_,rfl,fun h0=>s3.kget h0,hb⟩
 ·rw [s4] at h1
  refine (nd_least_inn (InAt.of h1) s5).mono ?_;rintro e w' ⟨rfl,rfl⟩;exact ⟨_,rfl,fun h0=>by rw [List.getD_eq_getElem?_getD,List.getElem?_eq_getElem h0];rfl,Below.refl _ _⟩
end
open Go.RowKit
theorem Seen.next {w W:World} {x:ND} {q:Nat} {g:Value} {t:TypeId} (hs:Seen w x) (hc:w.heap[q]?=some (.cells (g::x.cs).toArray t)) (hW:Below w.heap.size w W):Calls Tryz.prog 95 #[.pointer (some ⟨q,1,none⟩)] W fun e w'=>e=.returned (hV x.bn.next)∧Below W.heap.size W w':=by
 have h1:=rng1 (Below.heap' hW hc)
 rcases (hs.below hW).cases with ⟨f,s1,s2,s3,s4⟩ | ⟨s1,s2,s3,ic,B,s4,s5⟩
 ·rw [s4] at h1
  rw [s1];exact nd_next_leaf (LfAt.of h1) s3
 ·rw [s4] at h1
  exact nd_next_inn (InAt.of h1) s5
theorem Seen.low {w:World} {x:ND} {q:Nat} {g:Value} {t:TypeId} (hs:Seen w x) (hc:w.heap[q]?=some (.cells (g::x.cs).toArray t)):w.cell? ⟨q,1,none⟩=some (.bool x.bn.leaf):=by
 rcases hs.cases with ⟨f,s1,s2,s3,s4⟩ | ⟨s1,s2,s3,ic,B,s4,s5⟩
 ·rw [s4] at hc
  rw [s2];exact low_cell hc
 ·rw [s4] at hc
  rw [s1];exact low_cell hc
section
variable {β:Type}
theorem seg_at : ∀ {R : Lev β} {lo : Str} {i : Nat} {x : Hd × BN β}, Seg lo R (0, 0) none → R[i]? = some x →
    NodeOK (endOf lo (R.take i)) x.2∧x.2.bnd=decide (i+1 < R.length)∧(∀ y,R[i+1]?=some y→x.2.next=y.1)∧(i+1=R.length→x.2.next=(0,0))∧(i+1 < R.length→endOf lo (R.take (i+1))=x.2.high)
 | [],_,_,_,_,hx=>by simp at hx
 | (h,n)::R,lo,i,x,⟨a,b,c⟩,hx=>by
  cases i with
  | zero =>
   injection hx with hx;subst hx
   cases hb:n.bnd
   ·rw [hb] at c
    simp only [Bool.false_eq_true,if_false] at c;obtain ⟨e,_⟩:=c;subst e;exact ⟨a,by simp [hb],fun y hy=>by simp at hy,fun _=>b,fun h9=>by simp at h9⟩
   ·rw [hb,if_pos rfl] at c
    cases R with
    | nil=>simp [Seg] at c
    | cons y R=>exact ⟨a,by simp [hb],fun z hz=>by simp at hz;subst hz;exact b,fun h9=>by simp at h9,fun _=>rfl⟩
  | succ i =>
   cases hb:n.bnd
   ·rw [hb] at c
    simp only [Bool.false_eq_true,if_false] at c;obtain ⟨e,_⟩:=c;subst e;simp at hx
   ·rw [hb,if_pos rfl] at c
    obtain ⟨d1,d2,d3,d4,d5⟩:=seg_at (i:=i) c hx;refine ⟨d1,by rw [d2];simp,fun y hy=>d3 y hy,fun h9=>d4 (by simpa using h9),fun h9=>d5 (by simpa using h9)⟩
end
theorem bnd_last {i N:Nat} (h:i < N):decide (i+1 < N) = !decide (i+1=N):=by
 by_cases h1:i+1=N
 ·simp [h1]
 ·have:i+1 < N:=by omega
  simp [h1,this]
theorem toList_ne {a b:Str} (h:a≠b):(a.toList == b.toList)=false:=by
 cases h1:a.toList == b.toList
 ·rfl
 ·exact absurd (toList_inj (by simpa using h1)) h
theorem int_eq_nat (a b:Nat):((a:Int) == (b:Int))=decide (a=b):=by
 by_cases h:a=b
 ·simp [h]
 ·have:¬ (a:Int)=(b:Int):=by omega
  simp [h,this]
set_option maxRecDepth 100000 in
set_option maxHeartbeats 3000000 in
theorem MTr.row {w0 w : World} {T : TS} {Y : List Ly} {C : Cont Str} {l : Ly} {j : Nat} {R : Lev Sl} (h : MTr w0 w T Y C) (hl : l ∈ Y) (hR : l.Ls[j]? = some R) {base : Nat} {a : Option Addr} {c : Nat} (hrow : Row base 71 2 hcel w (.slice a R.length c) (R.map (·.1))) :
    Calls Tryz.prog 105 #[.pointer (some ⟨T.t,0,none⟩),.slice a R.length c] w fun e w'=>e=.returned (.bool true)∧Below w.heap.size w w':=by
 have c1:=h.am.cells.2.1
 have htw:=h.sane.ok.tow l hl
 have hok:=htw.ok j R hR
 have hslim:=h.sane.slim l hl j R hR
 have hRn:R.length≤20000:=by
  obtain ⟨X,Z,e1,_⟩:=lev_set (S':=[]) hR;have:=h.sane.nod l hl;unfold nodes at this;rw [e1] at this;simp at this;omega
 have hEn:=qh fun (x:Hd×BN Sl) (hx:x∈l.Ls.flatten)=>h.node (x:=x) (List.mem_flatMap.2 ⟨l,hl,hx⟩)
 have hseg:=qh fun (i:Nat) (x:Hd×BN Sl) (hx:R[i]?=some x)=>seg_at hok.seg hx
 have hlfs:∀ x,x∈R→x.2.leaf=decide (j=0):=hok.lf
 have hcap:cap (if decide (j=0)=true then 0 else 1)=cap j:=by
  by_cases h0:j=0
  ·simp [h0]
  ·simp [h0,cap]
 have hmf:∀ x,x∈R→x∈l.Ls.flatten:=fun x hx=>mem_flat hR hx
 obtain ⟨A,hA⟩:∃ a,a=T.d.A.a:=⟨_,rfl⟩
 rw [← hA] at c1 hEn
 obtain ⟨t,ht⟩:∃ t,t=T.t:=⟨_,rfl⟩
 rw [← ht] at c1 ⊢
 obtain ⟨lf,hlf⟩:∃ b,b=decide (j=0):=⟨_,rfl⟩
 rw [← hlf] at hlfs hcap
 have htl:=block_lt_of_cell c1
 replace hA:=qh hA
 replace ht:=qh ht
 replace hlf:=qh hlf
 replace hcap:=qh hcap
 replace hrow:=qh hrow
 replace hslim:=qh hslim
 replace hlfs:=qh hlfs
 replace hmf:=qh hmf
 obtain ⟨N,hN⟩:∃ N,N=R.length:=⟨_,rfl⟩
 rw [← hN] at hrow hRn ⊢
 replace hN:=qh hN
 clear h hl hR htw hok
 unfold hV at hEn
 go_enter Tryz.func105,Tryz.ntmps105
 go_wp2_with fail
 go_loopg [19,5] (N+1) (fun gk v19 v5 wr=>∃ (i:Nat),gk=N+1 - i∧i≤N∧v19=.int .i64 ((i:Nat):Int)∧(∃ s,v5=.string s∧(i < N→s=endOf s0 (R.take i)))∧Below w.heap.size w wr)
 case atStart=>exact ⟨0,rfl,Nat.zero_le _,rfl,⟨_,rfl,fun _=>rfl⟩,Below.refl _ _⟩
 case round =>
  obtain ⟨i,rfl,hiN,rfl,⟨low,rfl,hlow⟩,hB⟩:=hrel;by_cases hlt:i < N
  ·skip
   obtain ⟨x,hx⟩:∃ x,R[i]?=some x:=⟨_,List.getElem?_eq_getElem (by rw [← hN.out];exact hlt)⟩;obtain ⟨x0,hx0⟩:∃ x,R[0]?=some x:=⟨_,List.getElem?_eq_getElem (by rw [← hN.out];omega)⟩;have hxm:=List.mem_of_getElem? hx;have hxm0:=List.mem_of_getElem? hx0;obtain ⟨d1,d2,d3,d4,d5⟩:=hseg.out i x hx;rw [← hN.out] at d2 d4 d5;obtain ⟨e,nd,_,hbn,_,_,_,hc,hsn,hG⟩:=hEn.out x (hmf.out x hxm);obtain ⟨e9,nd0,_,hbn0,_,_,_,hc0,hsn0,hG0⟩:=hEn.out x0 (hmf.out x0 hxm0);obtain ⟨q,hq⟩:∃ q,q=e.blk:=⟨_,rfl⟩;obtain ⟨q0,hq0⟩:∃ q,q=e9.blk:=⟨_,rfl⟩;rw [← hq] at hc hG;rw [← hq0] at hc0 hG0;have hlwW:Hid (∀ W,Below w.heap.size w W→W.cell? ⟨q,1,none⟩=some (.bool lf)∧W.cell? ⟨q0,1,none⟩=some (.bool lf)):=qh fun W hW=>⟨by have:=hsn.low hc;rw [hbn,hlfs.out x hxm] at this;exact keep hW this,by have:=hsn0.low hc0;rw [hbn0,hlfs.out x0 hxm0] at this;exact keep hW this⟩
   have hlw:wr.cell? ⟨q,1,none⟩=some (.bool lf):=by have:=hsn.low hc;rw [hbn,hlfs.out x hxm] at this;exact keep hB this
   have hlw0:wr.cell? ⟨q0,1,none⟩=some (.bool lf):=by have:=hsn0.low hc0;rw [hbn0,hlfs.out x0 hxm0] at this;exact keep hB this
   have hRi:=qh fun W hW=>hsn.right hc (by rw [hbn,hlfs.out x hxm,hcap.out];exact hslim.out x hxm) (W:=W) hW
   have hHi:=qh fun W hW=>hsn.high hc (W:=W) hW
   have hLe:=qh fun W hW=>hsn.least hc (W:=W) hW
   have hNx:=qh fun W hW=>hsn.next hc (W:=W) hW
   rw [hbn] at hHi hLe hNx;unfold hV at hNx
   have hcel:Hid (∀ (W:World) (k:Nat) (y:Hd×BN Sl),Below w.heap.size w W→R[k]?=some y→∃ pb,a=some ⟨pb,0,none⟩∧W.cell? ⟨pb,k*2,none⟩=some (.int .i64 y.1.1)∧W.cell? ⟨pb,k*2+1,none⟩=some (.int .u64 y.1.2)∧pb < W.heap.size∧N≤c):=qh fun W k y hW hy=>by
    obtain ⟨b',c',ev,_,_,hb2,h5,_,_,hat⟩:=hrow.out.at (i:=k) (x:=y.1) (by rw [List.getElem?_map,hy];rfl);injection ev with ev _ ev2;subst ev ev2;exact ⟨b',rfl,keep hW (hat 0 _ rfl),keep hW (hat 1 _ rfl),Nat.lt_of_lt_of_le hb2 hW.size,by rw [List.length_map] at h5;rw [hN.out];exact h5⟩
   obtain ⟨pa,ha,_,_,_,hNc⟩:=hcel.out w 0 x0 (Below.refl _ _) hx0;subst ha
   have hcel2:Hid (∀ (W:World) (k:Nat) (y:Hd×BN Sl),Below w.heap.size w W→R[k]?=some y→W.cell? ⟨pa,k*2,none⟩=some (.int .i64 y.1.1)∧W.cell? ⟨pa,k*2+1,none⟩=some (.int .u64 y.1.2)∧pa < W.heap.size):=qh fun W k y hW hy=>by
    obtain ⟨pb,e1,e2,e3,e4,_⟩:=hcel.out W k y hW hy;injection e1 with e1;injection e1 with e1;subst e1;exact ⟨e2,e3,e4⟩
   replace hlow:=hlow hlt;rw [← hlow] at d1;have hql:=block_lt_of_cell hlw;have hql0:=block_lt_of_cell hlw0;obtain ⟨⟨x1,n⟩,rfl⟩:∃ y:Hd×BN Sl,y=x:=⟨x,rfl⟩;obtain ⟨⟨y1,n0⟩,rfl⟩:∃ y:Hd×BN Sl,y=x0:=⟨x0,rfl⟩;simp only at d1 d2 d3 d4 d5 hHi hLe hNx hG hG0;obtain ⟨lst,hlst⟩:∃ b,b=decide (i+1=N):=⟨_,rfl⟩;have hbl:n.bnd = !lst:=by rw [d2,hlst];exact bnd_last (by omega)
   have hwi:IntKind.i64.wrap (((i:Nat):Int)+1)=((i+1:Nat):Int):=by rw [show ((i:Nat):Int)+1=((i+1:Nat):Int) by omega];exact IntWalk.i64_in _ (by omega)
   have hle:(((i:Nat):Int)+1 == ((N:Nat):Int))=lst:=by rw [hlst,show ((i:Nat):Int)+1=((i+1:Nat):Int) by omega];exact int_eq_nat _ _
   have hilt:((i:Nat):Int) < ((N:Nat):Int):=by omega
   have hi0:(0:Int)≤((i:Nat):Int):=by omega
   have hN0:(0:Int) < ((N:Nat):Int):=by omega
   have hN0n:0 < N:=by omega
   obtain ⟨k0,k1,kl⟩:=hcel2.out wr i _ hB hx;simp only at k0 k1;replace hB:=qh hB;replace hbn:=qh hbn;replace hbn0:=qh hbn0;replace hc:=qh hc;replace hc0:=qh hc0;replace hsn:=qh hsn;replace hsn0:=qh hsn0;replace hG:=qh hG;replace hG0:=qh hG0;replace hq:=qh hq;replace hq0:=qh hq0;replace hx:=qh hx;replace hx0:=qh hx0;replace hxm:=qh hxm;replace hxm0:=qh hxm0;replace d1:=qh d1;replace d2:=qh d2;replace d3:=qh d3;replace d4:=qh d4;replace d5:=qh d5;replace hlow:=qh hlow;replace hlst:=qh hlst;replace hbl:=qh hbl;go_upto_region 5 with fail;clear k0 k1 kl;have hBa:=hB.out.alloc hB.out.size (.cells #[.int .i64 x1.1,.int .u64 x1.2] 71);have hbx:(wr.alloc (.cells #[.int .i64 x1.1,.int .u64 x1.2] 71)).heap[wr.heap.size]?=some (.cells #[.int .i64 x1.1,.int .u64 x1.2] 71):=heap_alloc_new _ _;generalize wr.alloc (.cells #[.int .i64 x1.1,.int .u64 x1.2] 71)=w2 at *;obtain ⟨HB,hHB⟩:∃ b,b=wr.heap.size:=⟨_,rfl⟩;rw [← hHB] at hbx ⊢;replace hHB:=qh hHB;replace hBa:=qh hBa;replace hbx:=qh hbx;have hBd:=hBa.out.drew;refine wp_region_late [] (S:=fun W'=>W'.cell? ⟨t,1,none⟩=some (.pointer (some ⟨A,0,none⟩))∧W'.heap[HB]?=some (.cells #[.int .i64 x1.1,.int .u64 x1.2] 71)) rfl (⟨keep hBd c1,Below.heap' (Below.refl _ _).drew hbx.out⟩) (fun hHeld=>?_)
   try dsimp only at hHeld
   refine tkW 0 ?_;refine tkW 1 ?_;refine tkW 2 ?_;refine tkM 3 ?_ (hz:=by rintro w ⟨e1,e2⟩;obtain ⟨b0,b1,bq,bf0,bf1⟩:=box2 e2;exact zf);refine tkM 4 ?_ (hz:=by rintro w ⟨e1,e2⟩;obtain ⟨b0,b1,bq,bf0,bf1⟩:=box2 e2;exact zf);refine rdM 5 ?_;intro K hK;go_simp;go_at_call 62;refine (hG.out _ hBd).mono ?_;rintro z3 w3 ⟨rfl,hb⟩;have hB3:=hBd.trans (hb.mono hBd.size);have hS1:w3.cell? ⟨t,1,none⟩=some (.pointer (some ⟨A,0,none⟩))∧w3.heap[HB]?=some (.cells #[.int .i64 x1.1,.int .u64 x1.2] 71):=⟨keep hB3 c1,Below.heap' hb (Below.heap' (Below.refl _ _).drew hbx.out)⟩;clear hb;replace hB3:=qh hB3;go_wp2_with fail;refine hK.out _ _ (fun _ _=>hS1) ?_;clear hHeld hK K;have hHeld:=hS1;clear hS1
   try simp only [Act.put,zs1,zs2,zs3]
   try simp only [Act.put]
   refine tkW 6 ?_;refine tkW 7 ?_;refine tkW 8 ?_;refine tkW 9 ?_;refine tkW 10 ?_;refine wpAnyM_done (by kernel_rfl) ?_ _
   try simp only [Exit.then]
   clear hHeld hBd;go_wp2_with fail;refine (hRi.out _ hB3.out).mono ?_;rintro z4 w4 ⟨rfl,hb⟩;have hB4:=qh (hB3.out.trans (hb.mono hB3.out.size));clear hb;go_upto_region 8 with fail;have hBd:=hB4.out.drew;have hz8:=hcel2.out _ 0 _ hBd hx0.out;rw [Nat.zero_mul] at hz8;simp only at hz8;have kpl:pa < w4.heap.size:=hz8.2.2;refine wp_region_late [] (S:=fun W'=>W'.cell? ⟨t,1,none⟩=some (.pointer (some ⟨A,0,none⟩))∧W'.cell? ⟨pa,0,none⟩=some (.int .i64 y1.1)∧W'.cell? ⟨pa,1,none⟩=some (.int .u64 y1.2)) rfl (⟨keep hBd c1,hz8.1,hz8.2.1⟩) (fun hHeld=>?_)
   try dsimp only at hHeld
   refine tkW 0 ?_;refine tkW 1 ?_;refine tkW 2 ?_;refine tkM 3 ?_ (hz:=by rintro w ⟨e1,e2,e3⟩;exact zf);refine tkW 4 ?_;refine tkW 5 ?_;refine tkM 6 ?_ (hz:=by rintro w ⟨e1,e2,e3⟩;exact zf);refine rdM 7 ?_;intro K hK;go_simp;go_at_call 62;refine (hG0.out _ hBd).mono ?_;rintro z3 w5 ⟨rfl,hb⟩;have hB5:=hBd.trans (hb.mono hBd.size);have hz9:=hcel2.out _ 0 _ hB5 hx0.out;rw [Nat.zero_mul] at hz9;simp only at hz9;have hS1:w5.cell? ⟨t,1,none⟩=some (.pointer (some ⟨A,0,none⟩))∧w5.cell? ⟨pa,0,none⟩=some (.int .i64 y1.1)∧w5.cell? ⟨pa,1,none⟩=some (.int .u64 y1.2):=⟨keep hB5 c1,hz9.1,hz9.2.1⟩;clear hb hz9;replace hB5:=qh hB5;go_wp2_with fail;refine hK.out _ _ (fun _ _=>hS1) ?_;clear hHeld hK K;have hHeld:=hS1;clear hS1
   try simp only [Act.put,zs1,zs2,zs3]
   try simp only [Act.put]
   refine tkW 8 ?_;refine tkW 9 ?_;refine tkW 10 ?_;refine tkW 11 ?_;refine tkW 12 ?_;refine wpAnyM_done (by kernel_rfl) ?_ _
   try simp only [Exit.then]
   clear hHeld hBd hz8 kpl;go_wp2_with fail;refine (hHi.out _ hB5.out).mono ?_;rintro z6 w6 ⟨hv,rfl,hhv,hb⟩;rw [hbl.out] at hhv ⊢;have hB6:=qh (hB5.out.trans (hb.mono hB5.out.size));clear hb;replace hhv:=qh hhv;go_upto_region 11 with fail
   try simp only [hle]
   cases lf
   ·skip
    cases lst
    ·skip
     have hlN:i+1 < N:=by have:=hlst.out;have h9:¬ i+1=N:=(by simpa using this);omega
     obtain ⟨⟨z1,zn⟩,hz1⟩:∃ y:Hd×BN Sl,R[i+1]?=some y:=⟨_,List.getElem?_eq_getElem (by rw [← hN.out];exact hlN)⟩;have hin:(0:Int)≤((i:Nat):Int)+1∧((i:Nat):Int)+1 < ((N:Nat):Int):=by omega
     have hnz:=d3.out _ hz1;simp only at hnz;rw [hnz] at hNx;replace hz1:=qh hz1;have hBd:=hB6.out.drew;have hcw:=hlwW.out _ hBd;have hz:=hcel2.out _ (i+1) _ hBd hz1.out;simp only at hz;have kpl:pa < w6.heap.size:=hz.2.2;refine wp_region_late [] (S:=fun W'=>W'.cell? ⟨q,1,none⟩=some (.bool false)∧W'.cell? ⟨q0,1,none⟩=some (.bool false)∧W'.cell? ⟨pa,(i+1)*2,none⟩=some (.int .i64 z1.1)∧W'.cell? ⟨pa,(i+1)*2+1,none⟩=some (.int .u64 z1.2)) rfl (⟨hcw.1,hcw.2,hz.1,hz.2.1⟩) (fun hHeld=>?_)
     try dsimp only at hHeld
     refine tkW 0 ?_;refine tkW 1 ?_;refine tkW 2 ?_;refine tkM 3 ?_ (hz:=by rintro w ⟨e1,e2,e3,e4⟩;exact zf);refine tkW 4 ?_;refine tkW 5 ?_;refine tkW 6 ?_;refine tkM 7 ?_ (hz:=by rintro w ⟨e1,e2,e3,e4⟩;exact zf);refine tkW 8 ?_;refine tkW 9 ?_;refine tkW 10 ?_;refine tkW 11 ?_;refine tkW 12 ?_;refine tkW 13 ?_;refine tkW 14 ?_;refine tkW 15 ?_;refine tkW 16 ?_;refine tkW 17 ?_;refine tkW 18 ?_;refine tkW 20 ?_;refine tkW 21 ?_;refine tkW 22 ?_;refine tkW 23 ?_;refine tkM 24 ?_ (hz:=by rintro w ⟨e1,e2,e3,e4⟩;exact zf);refine rdM 19 ?_;intro K hK;go_simp;go_at_call 95;refine (hNx.out _ hBd).mono ?_;rintro z3 w7 ⟨rfl,hb⟩;have hB7:=hBd.trans (hb.mono hBd.size);have hcw7:=hlwW.out _ hB7;have hz7:=hcel2.out _ (i+1) _ hB7 hz1.out;simp only at hz7;have hS1:w7.cell? ⟨q,1,none⟩=some (.bool false)∧w7.cell? ⟨q0,1,none⟩=some (.bool false)∧w7.cell? ⟨pa,(i+1)*2,none⟩=some (.int .i64 z1.1)∧w7.cell? ⟨pa,(i+1)*2+1,none⟩=some (.int .u64 z1.2):=⟨hcw7.1,hcw7.2,hz7.1,hz7.2.1⟩;clear hz7;clear hb hcw7;replace hB7:=qh hB7;go_wp2_with fail;refine hK.out _ _ (fun _ _=>hS1) ?_;clear hHeld hK K;have hHeld:=hS1;clear hS1
     try simp only [Act.put,zs1,zs2,zs3]
     try simp only [Act.put]
     refine takeW 25 (by simp only [zg1,zg3,zg2];rfl) ?_;refine ⟨by kernel_rfl,by kernel_rfl,by kernel_rfl,.bool false,fun _ _ _ h=>h,Or.inl ⟨by rfl,?_⟩,?_⟩
     ·intro w hSw;clear hSw;go_simp
     try simp only [Act.put,zs1,zs2,zs3]
     refine tkW 26 ?_;refine tkW 27 ?_;refine tkW 28 ?_;refine tkW 29 ?_;refine tkW 30 ?_;refine nkW 31 ?_;refine nkW 33 ?_;refine rdM 32 ?_;intro K hK;rw [if_neg (by intro h;cases h)];have hS1:=hHeld;refine hK.out _ _ (fun _ _=>hS1) ?_;clear hHeld hK K;have hHeld:=hS1;clear hS1
     try simp only [Act.put,zs1,zs2,zs3]
     try simp only [Act.put]
     refine nkW 34 ?_;refine tkW 35 ?_;refine tkW 36 ?_;refine wpAnyM_done (by kernel_rfl) ?_ _
     try simp only [Exit.then]
     clear hHeld hBd hcw hz kpl;go_wp2_with fail;refine (hLe.out _ hB7.out).mono ?_;rintro z8 w8 ⟨lv,rfl,hlv,hb⟩;have hB8:=qh (hB7.out.trans (hb.mono hB7.out.size));clear hb;replace hlv:=qh hlv;obtain ⟨sm,hsm⟩:∃ b,b=decide (0 < n.keys.length):=⟨_,rfl⟩;rw [← hsm]
     have hxl:sm=true→Op.bytesLess lv.toList low.toList=false:=fun h9=>by
      rw [less_slt];rw [hsm] at h9;exact sle_iff.1 (d1.out.low lv (List.mem_of_getElem? (hlv.out (by simpa using h9))))
     replace hsm:=qh hsm;have hhe:hv=n.high:=hhv.out rfl;have hrm:=d1.out.room (by rw [hbl.out];rfl);rw [← hhe] at hrm;have hhl:Op.bytesLess hv.toList low.toList=false:=by rw [less_slt];exact slt_asymm hrm
     have hhn:(hv.toList == low.toList)=false:=toList_ne (fun e=>by rw [e,slt_irrefl] at hrm;cases hrm);replace hrm:=qh hrm;replace hhe:=qh hhe
     cases sm
     ·skip
      go_upto_region 14 with fail;go_wp2_with fail;go_roundg (N - i)
      case rel =>
       exact ⟨i+1,by omega,by omega,congrArg _ (by omega),⟨hv,rfl,fun h9=>by rw [d5.out h9];exact hhe.out⟩,hB8.out⟩
      case measure=>omega
     ·skip
      replace hxl:=hxl rfl;go_upto_region 14 with fail;go_wp2_with fail;go_roundg (N - i)
      case rel =>
       exact ⟨i+1,by omega,by omega,congrArg _ (by omega),⟨hv,rfl,fun h9=>by rw [d5.out h9];exact hhe.out⟩,hB8.out⟩
      case measure=>omega
    ·skip
     have hnz:n.next=(0,0):=d4.out (by have:=hlst.out;simpa using this);rw [hnz] at hNx;simp only at hNx;have hBd:=hB6.out.drew;have hcw:=hlwW.out _ hBd;refine wp_region_late [] (S:=fun W'=>W'.cell? ⟨q,1,none⟩=some (.bool false)∧W'.cell? ⟨q0,1,none⟩=some (.bool false)) rfl (⟨hcw.1,hcw.2⟩) (fun hHeld=>?_)
     try dsimp only at hHeld
     refine tkW 0 ?_;refine tkW 1 ?_;refine tkW 2 ?_;refine tkM 3 ?_ (hz:=by rintro w ⟨e1,e2⟩;exact zf);refine tkW 4 ?_;refine tkW 5 ?_;refine tkW 6 ?_;refine tkM 7 ?_ (hz:=by rintro w ⟨e1,e2⟩;exact zf);refine tkW 8 ?_;refine tkW 9 ?_;refine tkW 10 ?_;refine tkW 11 ?_;refine tkW 12 ?_;refine tkW 13 ?_;refine tkW 14 ?_;refine tkW 15 ?_;refine tkW 16 ?_;refine tkW 17 ?_;refine nkW 18 ?_;refine nkW 20 ?_;refine nkW 21 ?_;refine nkW 22 ?_;refine nkW 23 ?_;refine nkW 24 ?_;refine rdM 19 ?_;intro K hK;rw [if_neg (by intro h;cases h)];have hS1:=hHeld;refine hK.out _ _ (fun _ _=>hS1) ?_;clear hHeld hK K;have hHeld:=hS1;clear hS1
     try simp only [Act.put,zs1,zs2,zs3]
     try simp only [Act.put]
     refine nkW 25 ?_;refine tkW 26 ?_;refine tkW 27 ?_;refine tkW 28 ?_;refine tkW 29 ?_;refine tkW 30 ?_;refine tkW 31 ?_;refine tkW 33 ?_;refine rdM 32 ?_;intro K hK;go_simp;go_at_call 95;refine (hNx.out _ hBd).mono ?_;rintro z3 w7 ⟨rfl,hb⟩;have hB7:=hBd.trans (hb.mono hBd.size);have hcw7:=hlwW.out _ hB7;have hS1:w7.cell? ⟨q,1,none⟩=some (.bool false)∧w7.cell? ⟨q0,1,none⟩=some (.bool false):=hcw7;clear hb hcw7;replace hB7:=qh hB7;go_wp2_with fail;refine hK.out _ _ (fun _ _=>hS1) ?_;clear hHeld hK K;have hHeld:=hS1;clear hS1
     try simp only [Act.put,zs1,zs2,zs3]
     try simp only [Act.put]
     refine takeW 34 (by simp only [zg1,zg3,zg2];rfl) ?_;refine ⟨by kernel_rfl,by kernel_rfl,by kernel_rfl,.bool false,fun _ _ _ h=>h,Or.inl ⟨by rfl,?_⟩,?_⟩
     ·intro w hSw;clear hSw;go_simp
     try simp only [Act.put,zs1,zs2,zs3]
     refine tkW 35 ?_;refine tkW 36 ?_;refine wpAnyM_done (by kernel_rfl) ?_ _
     try simp only [Exit.then]
     clear hHeld hBd hcw;go_wp2_with fail;refine (hLe.out _ hB7.out).mono ?_;rintro z8 w8 ⟨lv,rfl,hlv,hb⟩;have hB8:=qh (hB7.out.trans (hb.mono hB7.out.size));clear hb;replace hlv:=qh hlv;obtain ⟨sm,hsm⟩:∃ b,b=decide (0 < n.keys.length):=⟨_,rfl⟩;rw [← hsm]
     have hxl:sm=true→Op.bytesLess lv.toList low.toList=false:=fun h9=>by
      rw [less_slt];rw [hsm] at h9;exact sle_iff.1 (d1.out.low lv (List.mem_of_getElem? (hlv.out (by simpa using h9))))
     replace hsm:=qh hsm
     cases sm
     ·skip
      go_upto_region 14 with fail;go_wp2_with fail;go_roundg (N - i)
      case rel =>
       exact ⟨i+1,by omega,by omega,congrArg _ (by omega),⟨hv,rfl,fun h9=>by have:=hlst.out;have h8:i+1=N:=(by simpa using this);omega⟩,hB8.out⟩
      case measure=>omega
     ·skip
      replace hxl:=hxl rfl;go_upto_region 14 with fail;go_wp2_with fail;go_roundg (N - i)
      case rel =>
       exact ⟨i+1,by omega,by omega,congrArg _ (by omega),⟨hv,rfl,fun h9=>by have:=hlst.out;have h8:i+1=N:=(by simpa using this);omega⟩,hB8.out⟩
      case measure=>omega
   ·skip
    cases lst
    ·skip
     have hlN:i+1 < N:=by have:=hlst.out;have h9:¬ i+1=N:=(by simpa using this);omega
     obtain ⟨⟨z1,zn⟩,hz1⟩:∃ y:Hd×BN Sl,R[i+1]?=some y:=⟨_,List.getElem?_eq_getElem (by rw [← hN.out];exact hlN)⟩;have hin:(0:Int)≤((i:Nat):Int)+1∧((i:Nat):Int)+1 < ((N:Nat):Int):=by omega
     have hnz:=d3.out _ hz1;simp only at hnz;rw [hnz] at hNx;replace hz1:=qh hz1;have hBd:=hB6.out.drew;have hcw:=hlwW.out _ hBd;have hz:=hcel2.out _ (i+1) _ hBd hz1.out;simp only at hz;have kpl:pa < w6.heap.size:=hz.2.2;refine wp_region_late [] (S:=fun W'=>W'.cell? ⟨q,1,none⟩=some (.bool true)∧W'.cell? ⟨q0,1,none⟩=some (.bool true)∧W'.cell? ⟨pa,(i+1)*2,none⟩=some (.int .i64 z1.1)∧W'.cell? ⟨pa,(i+1)*2+1,none⟩=some (.int .u64 z1.2)) rfl (⟨hcw.1,hcw.2,hz.1,hz.2.1⟩) (fun hHeld=>?_)
     try dsimp only at hHeld
     refine tkW 0 ?_;refine tkW 1 ?_;refine tkW 2 ?_;refine tkM 3 ?_ (hz:=by rintro w ⟨e1,e2,e3,e4⟩;exact zf);refine tkW 4 ?_;refine tkW 5 ?_;refine tkW 6 ?_;refine tkM 7 ?_ (hz:=by rintro w ⟨e1,e2,e3,e4⟩;exact zf);refine tkW 8 ?_;refine tkW 9 ?_;refine tkW 10 ?_;refine tkW 11 ?_;refine tkW 12 ?_;refine tkW 13 ?_;refine tkW 14 ?_;refine tkW 15 ?_;refine tkW 16 ?_;refine tkW 17 ?_;refine tkW 18 ?_;refine tkW 20 ?_;refine tkW 21 ?_;refine tkW 22 ?_;refine tkW 23 ?_;refine tkM 24 ?_ (hz:=by rintro w ⟨e1,e2,e3,e4⟩;exact zf);refine rdM 19 ?_;intro K hK;go_simp;go_at_call 95;refine (hNx.out _ hBd).mono ?_;rintro z3 w7 ⟨rfl,hb⟩;have hB7:=hBd.trans (hb.mono hBd.size);have hcw7:=hlwW.out _ hB7;have hz7:=hcel2.out _ (i+1) _ hB7 hz1.out;simp only at hz7;have hS1:w7.cell? ⟨q,1,none⟩=some (.bool true)∧w7.cell? ⟨q0,1,none⟩=some (.bool true)∧w7.cell? ⟨pa,(i+1)*2,none⟩=some (.int .i64 z1.1)∧w7.cell? ⟨pa,(i+1)*2+1,none⟩=some (.int .u64 z1.2):=⟨hcw7.1,hcw7.2,hz7.1,hz7.2.1⟩;clear hz7;clear hb hcw7;replace hB7:=qh hB7;go_wp2_with fail;refine hK.out _ _ (fun _ _=>hS1) ?_;clear hHeld hK K;have hHeld:=hS1;clear hS1
     try simp only [Act.put,zs1,zs2,zs3]
     try simp only [Act.put]
     refine takeW 25 (by simp only [zg1,zg3,zg2];rfl) ?_;refine ⟨by kernel_rfl,by kernel_rfl,by kernel_rfl,.bool false,fun _ _ _ h=>h,Or.inl ⟨by rfl,?_⟩,?_⟩
     ·intro w hSw;clear hSw;go_simp
     try simp only [Act.put,zs1,zs2,zs3]
     refine tkW 26 ?_;refine tkW 27 ?_;refine tkW 28 ?_;refine tkW 29 ?_;refine tkW 30 ?_;refine nkW 31 ?_;refine nkW 33 ?_;refine rdM 32 ?_;intro K hK;rw [if_neg (by intro h;cases h)];have hS1:=hHeld;refine hK.out _ _ (fun _ _=>hS1) ?_;clear hHeld hK K;have hHeld:=hS1;clear hS1
     try simp only [Act.put,zs1,zs2,zs3]
     try simp only [Act.put]
     refine nkW 34 ?_;refine tkW 35 ?_;refine tkW 36 ?_;refine wpAnyM_done (by kernel_rfl) ?_ _
     try simp only [Exit.then]
     clear hHeld hBd hcw hz kpl;go_wp2_with fail;refine (hLe.out _ hB7.out).mono ?_;rintro z8 w8 ⟨lv,rfl,hlv,hb⟩;have hB8:=qh (hB7.out.trans (hb.mono hB7.out.size));clear hb;replace hlv:=qh hlv;obtain ⟨sm,hsm⟩:∃ b,b=decide (0 < n.keys.length):=⟨_,rfl⟩;rw [← hsm]
     have hxl:sm=true→Op.bytesLess lv.toList low.toList=false:=fun h9=>by
      rw [less_slt];rw [hsm] at h9;exact sle_iff.1 (d1.out.low lv (List.mem_of_getElem? (hlv.out (by simpa using h9))))
     replace hsm:=qh hsm;have hhe:hv=n.high:=hhv.out rfl;have hrm:=d1.out.room (by rw [hbl.out];rfl);rw [← hhe] at hrm;have hhl:Op.bytesLess hv.toList low.toList=false:=by rw [less_slt];exact slt_asymm hrm
     have hhn:(hv.toList == low.toList)=false:=toList_ne (fun e=>by rw [e,slt_irrefl] at hrm;cases hrm);replace hrm:=qh hrm;replace hhe:=qh hhe
     cases sm
     ·skip
      go_upto_region 14 with fail;go_wp2_with fail;go_roundg (N - i)
      case rel =>
       exact ⟨i+1,by omega,by omega,congrArg _ (by omega),⟨hv,rfl,fun h9=>by rw [d5.out h9];exact hhe.out⟩,hB8.out⟩
      case measure=>omega
     ·skip
      replace hxl:=hxl rfl;go_upto_region 14 with fail;go_wp2_with fail;go_roundg (N - i)
      case rel =>
       exact ⟨i+1,by omega,by omega,congrArg _ (by omega),⟨hv,rfl,fun h9=>by rw [d5.out h9];exact hhe.out⟩,hB8.out⟩
      case measure=>omega
    ·skip
     have hnz:n.next=(0,0):=d4.out (by have:=hlst.out;simpa using this);rw [hnz] at hNx;simp only at hNx;have hBd:=hB6.out.drew;have hcw:=hlwW.out _ hBd;refine wp_region_late [] (S:=fun W'=>W'.cell? ⟨q,1,none⟩=some (.bool true)∧W'.cell? ⟨q0,1,none⟩=some (.bool true)) rfl (⟨hcw.1,hcw.2⟩) (fun hHeld=>?_)
     try dsimp only at hHeld
     refine tkW 0 ?_;refine tkW 1 ?_;refine tkW 2 ?_;refine tkM 3 ?_ (hz:=by rintro w ⟨e1,e2⟩;exact zf);refine tkW 4 ?_;refine tkW 5 ?_;refine tkW 6 ?_;refine tkM 7 ?_ (hz:=by rintro w ⟨e1,e2⟩;exact zf);refine tkW 8 ?_;refine tkW 9 ?_;refine tkW 10 ?_;refine tkW 11 ?_;refine tkW 12 ?_;refine tkW 13 ?_;refine tkW 14 ?_;refine tkW 15 ?_;refine tkW 16 ?_;refine tkW 17 ?_;refine nkW 18 ?_;refine nkW 20 ?_;refine nkW 21 ?_;refine nkW 22 ?_;refine nkW 23 ?_;refine nkW 24 ?_;refine rdM 19 ?_;intro K hK;rw [if_neg (by intro h;cases h)];have hS1:=hHeld;refine hK.out _ _ (fun _ _=>hS1) ?_;clear hHeld hK K;have hHeld:=hS1;clear hS1
     try simp only [Act.put,zs1,zs2,zs3]
     try simp only [Act.put]
     refine nkW 25 ?_;refine tkW 26 ?_;refine tkW 27 ?_;refine tkW 28 ?_;refine tkW 29 ?_;refine tkW 30 ?_;refine tkW 31 ?_;refine tkW 33 ?_;refine rdM 32 ?_;intro K hK;go_simp;go_at_call 95;refine (hNx.out _ hBd).mono ?_;rintro z3 w7 ⟨rfl,hb⟩;have hB7:=hBd.trans (hb.mono hBd.size);have hcw7:=hlwW.out _ hB7;have hS1:w7.cell? ⟨q,1,none⟩=some (.bool true)∧w7.cell? ⟨q0,1,none⟩=some (.bool true):=hcw7;clear hb hcw7;replace hB7:=qh hB7;go_wp2_with fail;refine hK.out _ _ (fun _ _=>hS1) ?_;clear hHeld hK K;have hHeld:=hS1;clear hS1
     try simp only [Act.put,zs1,zs2,zs3]
     try simp only [Act.put]
     refine takeW 34 (by simp only [zg1,zg3,zg2];rfl) ?_;refine ⟨by kernel_rfl,by kernel_rfl,by kernel_rfl,.bool false,fun _ _ _ h=>h,Or.inl ⟨by rfl,?_⟩,?_⟩
     ·intro w hSw;clear hSw;go_simp
     try simp only [Act.put,zs1,zs2,zs3]
     refine tkW 35 ?_;refine tkW 36 ?_;refine wpAnyM_done (by kernel_rfl) ?_ _
     try simp only [Exit.then]
     clear hHeld hBd hcw;go_wp2_with fail;refine (hLe.out _ hB7.out).mono ?_;rintro z8 w8 ⟨lv,rfl,hlv,hb⟩;have hB8:=qh (hB7.out.trans (hb.mono hB7.out.size));clear hb;replace hlv:=qh hlv;obtain ⟨sm,hsm⟩:∃ b,b=decide (0 < n.keys.length):=⟨_,rfl⟩;rw [← hsm]
     have hxl:sm=true→Op.bytesLess lv.toList low.toList=false:=fun h9=>by
      rw [less_slt];rw [hsm] at h9;exact sle_iff.1 (d1.out.low lv (List.mem_of_getElem? (hlv.out (by simpa using h9))))
     replace hsm:=qh hsm
     cases sm
     ·skip
      go_upto_region 14 with fail;go_wp2_with fail;go_roundg (N - i)
      case rel =>
       exact ⟨i+1,by omega,by omega,congrArg _ (by omega),⟨hv,rfl,fun h9=>by have:=hlst.out;have h8:i+1=N:=(by simpa using this);omega⟩,hB8.out⟩
      case measure=>omega
     ·skip
      replace hxl:=hxl rfl;go_upto_region 14 with fail;go_wp2_with fail;go_roundg (N - i)
      case rel =>
       exact ⟨i+1,by omega,by omega,congrArg _ (by omega),⟨hv,rfl,fun h9=>by have:=hlst.out;have h8:i+1=N:=(by simpa using this);omega⟩,hB8.out⟩
      case measure=>omega
  ·skip
   obtain rfl:i=N:=by omega
   go_wp2_with fail;go_ret;exact ⟨rfl,hB⟩
open Go.RowKit
section
variable {β:Type}
def wants (R:Lev β):List Str:=R.flatMap fun x=>x.2.keys++if x.2.bnd then [x.2.high] else []
def kidsOf (R:Lev β):List Hd:=R.flatMap fun x=>x.2.kids
theorem wants_snoc (A:Lev β) (x:Hd×BN β):wants (A++[x])=(wants A++x.2.keys)++if x.2.bnd then [x.2.high] else []:=by simp [wants]
theorem kidsOf_snoc (A:Lev β) (x:Hd×BN β):kidsOf (A++[x])=kidsOf A++x.2.kids:=by simp [kidsOf]
theorem kidsK_snd {n:BN β} (h:n.kids.length=n.keys.length+1):(kidsK n).map (·.2)=n.keys.map some++[n.hi]:=by
 unfold kidsK
 rw [List.map_snd_zip (by simp;omega)]
theorem under_ends:∀ {R:Lev β} {lo:Str},R≠[]→Seg lo R (0,0) none→(∀ x,x∈R→x.2.leaf=false)→(under R).map (·.2)=(wants R).map some++[none]
 | [],_,h,_,_=>absurd rfl h
 | (h0,n)::B,lo,_,⟨h1,h2,h3⟩,hl=>by
  have hk:=(h1.inn (hl (h0,n) (by simp))).2;rw [under_cons,List.map_append,kidsK_snd hk];by_cases hb:n.bnd=true
  ·rw [if_pos hb] at h3
   have hB:B≠[]:=by
    intro e;rw [e] at h3;simp [Seg] at h3
   rw [under_ends hB h3 (fun x hx=>hl x (by simp [hx]))];simp [wants,hb,BN.hi]
  ·rw [if_neg hb] at h3
   rw [h3.1];simp [wants,hb,BN.hi,under]
theorem flatMap_eq {α γ:Type} {f g:α→List γ}:∀ {l:List α},(∀ x,x∈l→f x=g x)→l.flatMap f=l.flatMap g
 | [],_=>rfl
 | x::l,h=>by rw [List.flatMap_cons,List.flatMap_cons,h x (by simp),flatMap_eq (fun y hy=>h y (by simp [hy]))]
theorem Tower.kids {Ls : List (Lev β)} (ht : Tower Ls) {j : Nat} {S R : Lev β} (hS : Ls[j]? = some S) (hR : Ls[j + 1]? = some R) :
    kidsOf R=S.map (·.1)∧S.length=(wants R).length+1∧∀ (i:Nat) (x:Hd×BN β),S[i]?=some x→x.2.bnd=true→(wants R)[i]?=some x.2.high:=by
 have okR:=ht.ok _ _ hR
 rw [show decide (j+1=0)=false by simp] at okR
 have hne:R≠[]:=by
  intro e;have:=okR.seg;rw [e] at this;simp [Seg] at this
 have hl:=ht.link _ _ _ hS hR
 have h1:=under_ends hne okR.seg okR.lf
 rw [← hl] at h1
 unfold sk at h1
 rw [List.map_map] at h1
 have hlen:S.length=(wants R).length+1:=by have:=congrArg List.length h1;simpa using this
 refine ⟨?_,hlen,fun i x hx hb=>?_⟩
 ·have h2:=congrArg (List.map Prod.fst) hl
  unfold sk under at h2;rw [List.map_map,List.map_flatMap] at h2;have h3:S.map (Prod.fst ∘ fun x=>(x.1,x.2.hi))=S.map (·.1):=rfl;rw [h3] at h2;rw [h2];unfold kidsOf;refine flatMap_eq fun x hx=>?_
  obtain ⟨l,hl⟩:=okR.node hx;have hk:=(hl.inn (okR.lf x hx)).2;unfold kidsK;rw [List.map_fst_zip (by simp;omega)]
 ·have h2:=congrArg (fun l=>l[i]?) h1
  simp only [List.getElem?_map,hx] at h2;have hil:=(List.getElem?_eq_some_iff.1 hx).1;rcases Nat.lt_or_ge i (wants R).length with h9 | h9
  ·obtain ⟨k,hk⟩:∃ k,(wants R)[i]?=some k:=⟨_,List.getElem?_eq_getElem h9⟩
   rw [List.getElem?_append_left (by simpa using h9),List.getElem?_map,hk] at h2;simp only [Option.map_some,Function.comp,Option.some.injEq,BN.hi,hb,if_true] at h2;rw [hk,h2]
  ·have h8:i=(wants R).length:=by omega
   rw [List.getElem?_append_right (by simpa using h9)] at h2;simp [h8,BN.hi,hb] at h2
end
theorem st_info:∃ i0:TypeInfo,Tryz.prog.info? 9=some i0∧i0.zero=some (.string ⟨#[]⟩)∧i0.size=1∧i0.bytes=16:=info_parts (show (Tryz.prog.info? 9).map (fun i=>(i.zero,i.size,i.bytes))=some (some (.string ⟨#[]⟩),1,16) by kernel_rfl)
def Dj (u v:Value):Prop:=∀ b,u.ownBlock=some b→v.ownBlock≠some b
theorem Dj.left {u u' v:Value} {n m:Nat} (h:Dj u v) (hu:u'.ownBlock=u.ownBlock∨u'.ownBlock=some n) (hv:∀ b,v.ownBlock=some b→m≤b∧b < n):Dj u' v:=fun b hb hc=>by
 rcases hu with e | e
 ·exact h b (by rw [← e];exact hb) hc
 ·rw [e] at hb
  injection hb with hb;have:=(hv b hc).2;omega
theorem Dj.swap {u v:Value} (h:Dj u v):Dj v u:=fun b hb hc=>h b hc hb
theorem Dj.nin {u v:Value} (h:Dj u v):∀ b,v.ownBlock=some b→b∉u.ownBlock.toList:=fun b hb hc=>h b (by simpa using hc) hb
theorem kidsOf_take {β:Type} {R:Lev β} {i:Nat} {x:Hd×BN β} (hx:R[i]?=some x):kidsOf (R.take (i+1))=kidsOf (R.take i)++x.2.kids:=by
 rw [List.take_add_one,hx]
 exact kidsOf_snoc _ _
theorem wants_take {β:Type} {R:Lev β} {i:Nat} {x:Hd×BN β} (hx:R[i]?=some x):wants (R.take (i+1))=(wants (R.take i)++x.2.keys)++if x.2.bnd then [x.2.high] else []:=by
 rw [List.take_add_one,hx]
 exact wants_snoc _ _
theorem kidsOf_len {β:Type} (R:Lev β) (i:Nat):(kidsOf (R.take i)).length≤(kidsOf R).length:=by
 conv=>rhs;rw [← List.take_append_drop i R]
 unfold kidsOf
 rw [List.flatMap_append,List.length_append]
 omega
theorem wants_len {β:Type} (R:Lev β) (i:Nat):(wants (R.take i)).length≤(wants R).length:=by
 conv=>rhs;rw [← List.take_append_drop i R]
 unfold wants
 rw [List.flatMap_append,List.length_append]
 omega
def KdE (w:World) (L:List Hd) (x:Ending) (w':World):Prop:=∃ a c,x=.returned (.tuple #[.slice a L.length c,.bool true])∧Row w.heap.size 71 2 hcel w' (.slice a L.length c) L∧Below w.heap.size w w'
set_option maxRecDepth 100000 in
set_option maxHeartbeats 3000000 in
theorem MTr.kids {w0 w : World} {T : TS} {Y : List Ly} {C : Cont Str} {l : Ly} {j : Nat} {S R : Lev Sl} (h : MTr w0 w T Y C) (hl : l ∈ Y) (hS : l.Ls[j]? = some S) (hR : l.Ls[j + 1]? = some R) {base : Nat} {a : Option Addr} {c : Nat} (hrow : Row base 71 2 hcel w (.slice a R.length c) (R.map (·.1))) :
    Calls Tryz.prog 106 #[.pointer (some ⟨T.t,0,none⟩),.slice a R.length c] w (KdE w (S.map (·.1))):=by
 have c1:=h.am.cells.2.1
 have htw:=h.sane.ok.tow l hl
 obtain ⟨hk1,hk2,hk3⟩:=htw.kids hS hR
 have hlf:=(htw.ok _ _ hR).lf
 rw [show decide (j+1=0)=false by simp] at hlf
 have hlen:∀ (k:Nat) (Q:Lev Sl),l.Ls[k]?=some Q→Q.length≤20000:=fun k Q hQ=>by
  obtain ⟨X,Z,e1,_⟩:=lev_set (S':=[]) hQ;have:=h.sane.nod l hl;unfold nodes at this;rw [e1] at this;simp at this;omega
 have hRn:=hlen _ _ hR
 have hSn:=hlen _ _ hS
 have hEn:=qh fun (x:Hd×BN Sl) (hx:x∈l.Ls.flatten)=>h.node (x:=x) (List.mem_flatMap.2 ⟨l,hl,hx⟩)
 have hmf:∀ x,x∈R→x∈l.Ls.flatten:=fun x hx=>mem_flat hR hx
 have hmS:∀ x,x∈S→x∈l.Ls.flatten:=fun x hx=>mem_flat hS hx
 obtain ⟨i1,hi1,hyA,hyB,hyC⟩:=hd_info
 obtain ⟨i0,hi0,hzA,hzB,hzC⟩:=st_info
 obtain ⟨A,hA⟩:∃ a,a=T.d.A.a:=⟨_,rfl⟩
 rw [← hA] at c1 hEn
 obtain ⟨t,ht⟩:∃ t,t=T.t:=⟨_,rfl⟩
 rw [← ht] at c1 ⊢
 have htl:=block_lt_of_cell c1
 replace hA:=qh hA
 replace ht:=qh ht
 replace hrow:=qh hrow
 replace hlf:=qh hlf
 replace hmf:=qh hmf
 replace hmS:=qh hmS
 replace hk1:=qh hk1
 replace hk3:=qh hk3
 obtain ⟨N,hN⟩:∃ N,N=R.length:=⟨_,rfl⟩
 rw [← hN] at hrow hRn ⊢
 replace hN:=qh hN
 clear h hl hR hS htw hlen
 unfold hV at hEn
 go_enter Tryz.func106,Tryz.ntmps106
 go_wp2_with fail
 go_loopg [20,6,7] (N+1) (fun gk v20 v6 v7 wr=>∃ (i:Nat),gk=N+1 - i∧i≤N∧v20=.int .i64 ((i:Nat):Int)∧Row w.heap.size 71 2 hcel wr v6 (kidsOf (R.take i))∧Row w.heap.size 9 1 scell wr v7 (wants (R.take i))∧Dj v6 v7∧Below w.heap.size w wr)
 case atStart=>exact ⟨0,rfl,Nat.zero_le _,rfl,Row.nil hcel_len hcel_one _ _ _,Row.nil scell_len scell_one _ _ _,fun b hb _=>(by cases hb),Below.refl _ _⟩
 case round =>
  obtain ⟨i,rfl,hiN,rfl,hrH,hrS,hdj,hB⟩:=hrel;obtain ⟨va,vc,rfl⟩:=hrH.shape;obtain ⟨sa,sc,rfl⟩:=hrS.shape;by_cases hlt:i < N
  ·skip
   obtain ⟨x,hx⟩:∃ x,R[i]?=some x:=⟨_,List.getElem?_eq_getElem (by rw [← hN.out];exact hlt)⟩;have hxm:=List.mem_of_getElem? hx;obtain ⟨e,nd,_,hbn,_,_,_,hc,hsn,hG⟩:=hEn.out x (hmf.out x hxm);obtain ⟨q,hq⟩:∃ q,q=e.blk:=⟨_,rfl⟩;rw [← hq] at hc hG;have hk:=kidsOf_take hx;have hw:=wants_take hx;have hlk:=kidsOf_len R (i+1);have hlw:=wants_len R (i+1);rw [hk1.out,List.length_map] at hlk
   have hrc:∃ pb,a=some ⟨pb,0,none⟩∧w.cell? ⟨pb,i*2,none⟩=some (.int .i64 x.1.1)∧w.cell? ⟨pb,i*2+1,none⟩=some (.int .u64 x.1.2)∧pb < w.heap.size∧N≤c:=by
    obtain ⟨b',c',ev,_,_,hb2,h5,_,_,hat⟩:=hrow.out.at (i:=i) (x:=x.1) (by rw [List.getElem?_map,hx];rfl);injection ev with ev _ ev2;subst ev ev2;exact ⟨b',rfl,hat 0 _ rfl,hat 1 _ rfl,hb2,by rw [List.length_map] at h5;rw [hN.out];exact h5⟩
   obtain ⟨pa,rfl,k0,k1,kl,hNc⟩:=hrc;replace k0:=keep hB k0;replace k1:=keep hB k1;replace kl:=Nat.lt_of_lt_of_le kl hB.size
   have hcs:∃ ka kc va vc ha hc,(∀ W,Below w.heap.size w W→W.cell? ⟨q,114,none⟩=some (.slice ka x.2.keys.length kc)∧W.cell? ⟨q,116,none⟩=some (.slice ha x.2.kids.length hc)∧W.cell? ⟨q,117,none⟩=some (.string x.2.high)∧W.cell? ⟨q,118,none⟩=some (.bool x.2.bnd))∧At w 1 scell ka kc x.2.keys∧At w 2 hcel ha hc x.2.kids∧va=ka∧vc=kc:=by
    have h0:=hlf.out x hxm;rcases hsn.cases with ⟨f,s1,s2,s3,s4⟩ | ⟨s1,s2,s3,ic,B,s4,s5⟩
    ·rw [hbn,h0] at s2;cases s2
    ·rw [hbn] at s5
     obtain ⟨ka,kc,va,vc,ha,hc9,e9,s6,s7⟩:=s5.cells;rw [s4,e9] at hc;have s8:=(InAt.of (rng1 hc)).inn;exact ⟨ka,kc,ka,kc,ha,hc9,fun W hW=>⟨keep hW (s8 1 _ rfl),keep hW (s8 3 _ rfl),keep hW (s8 4 _ rfl),keep hW (s8 5 _ rfl)⟩,s6,s7,rfl,rfl⟩
   obtain ⟨ka,kc,_,_,ha,hc9,hcs,hka,hha,_,_⟩:=hcs;replace hcs:=qh hcs;replace hka:=qh hka;replace hha:=qh hha;have hql:q < wr.heap.size:=by have:=block_lt_of_cell (hcs.out w (Below.refl _ _)).1;exact Nat.lt_of_lt_of_le this hB.size
   obtain ⟨⟨x1,n⟩,rfl⟩:∃ y:Hd×BN Sl,y=x:=⟨x,rfl⟩;simp only at hk hw hG hcs hka hha k0 k1;have hilt:((i:Nat):Int) < ((N:Nat):Int):=by omega
   have hi0z:(0:Int)≤((i:Nat):Int):=by omega
   obtain ⟨KK,hKK⟩:∃ X,X=n.keys:=⟨_,rfl⟩;obtain ⟨HH,hHH⟩:∃ X,X=n.kids:=⟨_,rfl⟩;obtain ⟨hi,hhi⟩:∃ X,X=n.high:=⟨_,rfl⟩;obtain ⟨bd,hbd⟩:∃ X,X=n.bnd:=⟨_,rfl⟩;rw [← hKK,← hhi,← hbd] at hw;rw [← hHH] at hk;rw [← hKK,← hHH,← hhi,← hbd] at hcs;rw [← hKK] at hka;rw [← hHH] at hha;obtain ⟨LH,hLH⟩:∃ X,X=kidsOf (R.take i):=⟨_,rfl⟩;obtain ⟨LS,hLS⟩:∃ X,X=wants (R.take i):=⟨_,rfl⟩;rw [← hLH] at hrH hk hdj ⊢;rw [← hLS] at hrS hw hdj ⊢;rw [hk,List.length_append] at hlk;rw [hw,List.length_append,List.length_append] at hlw;have hm1:Hid (LH.length+HH.length≤maxLen):=qh (by unfold maxLen;omega);have hy1:Hid ((LH.length+HH.length)*16≤140737488355328):=qh (by omega);have hm2:Hid (LS.length+KK.length≤maxLen):=qh (by unfold maxLen;omega);have hy2:Hid ((LS.length+KK.length)*16≤140737488355328):=qh (by omega);have hm3:bd=true→Hid ((LS++KK).length+1≤maxLen∧((LS++KK).length+1)*16≤140737488355328):=fun hb=>qh (by rw [List.length_append];unfold maxLen;omega)
   replace hB:=qh hB;replace hbn:=qh hbn;replace hc:=qh hc;replace hsn:=qh hsn;replace hG:=qh hG;replace hq:=qh hq;replace hx:=qh hx;replace hxm:=qh hxm;replace hk:=qh hk;replace hw:=qh hw;replace hlk:=qh hlk;replace hlw:=qh hlw;replace hrH:=qh hrH;replace hrS:=qh hrS;replace hdj:=qh hdj;replace hLH:=qh hLH;replace hLS:=qh hLS;replace hKK:=qh hKK;replace hHH:=qh hHH;replace hhi:=qh hhi;replace hbd:=qh hbd;go_upto_region 6 with fail;clear k0 k1 kl;have hBa:=hB.out.alloc hB.out.size (.cells #[.int .i64 x1.1,.int .u64 x1.2] 71);have hA1:=qh ((Below.refl wr.heap.size wr).alloc (Nat.le_refl _) (.cells #[.int .i64 x1.1,.int .u64 x1.2] 71));have hbx:(wr.alloc (.cells #[.int .i64 x1.1,.int .u64 x1.2] 71)).heap[wr.heap.size]?=some (.cells #[.int .i64 x1.1,.int .u64 x1.2] 71):=heap_alloc_new _ _;generalize wr.alloc (.cells #[.int .i64 x1.1,.int .u64 x1.2] 71)=w2 at *;obtain ⟨HB,hHB⟩:∃ b,b=wr.heap.size:=⟨_,rfl⟩;rw [← hHB] at hbx ⊢;replace hHB:=qh hHB;replace hBa:=qh hBa;replace hbx:=qh hbx;have hBd:=hBa.out.drew;refine wp_region_late [] (S:=fun W'=>W'.cell? ⟨t,1,none⟩=some (.pointer (some ⟨A,0,none⟩))∧W'.heap[HB]?=some (.cells #[.int .i64 x1.1,.int .u64 x1.2] 71)) rfl (⟨keep hBd c1,Below.heap' (Below.refl _ _).drew hbx.out⟩) (fun hHeld=>?_)
   try dsimp only at hHeld
   refine tkW 0 ?_;refine tkW 1 ?_;refine tkW 2 ?_;refine tkM 3 ?_ (hz:=by rintro w ⟨e1,e2⟩;obtain ⟨b0,b1,bq,bf0,bf1⟩:=box2 e2;exact zf);refine tkM 4 ?_ (hz:=by rintro w ⟨e1,e2⟩;obtain ⟨b0,b1,bq,bf0,bf1⟩:=box2 e2;exact zf);refine rdM 5 ?_;intro K hK;go_simp;go_at_call 62;refine (hG.out _ hBd).mono ?_;rintro z3 w3 ⟨rfl,hb⟩;have hB3:=hBd.trans (hb.mono hBd.size);have hS1:w3.cell? ⟨t,1,none⟩=some (.pointer (some ⟨A,0,none⟩))∧w3.heap[HB]?=some (.cells #[.int .i64 x1.1,.int .u64 x1.2] 71):=⟨keep hB3 c1,Below.heap' hb (Below.heap' (Below.refl _ _).drew hbx.out)⟩;have hA3:=qh ((((Below.refl w2.heap.size w2).drew).trans hb).trans (Below.refl _ _));clear hb;replace hB3:=qh hB3;go_wp2_with fail;refine hK.out _ _ (fun _ _=>hS1) ?_;clear hHeld hK K;have hHeld:=hS1;clear hS1
   try simp only [Act.put,zs1,zs2,zs3]
   try simp only [Act.put]
   refine tkW 6 ?_;refine tkW 7 ?_;refine tkW 8 ?_;refine tkW 9 ?_;refine tkW 10 ?_;refine wpAnyM_done (by kernel_rfl) ?_ _
   try simp only [Exit.then]
   clear hHeld hBd;have hrH3:=qh ((hrH.out.below hA1.out).below hA3.out);have hrS3:=qh ((hrS.out.below hA1.out).below hA3.out);clear hA1 hA3;obtain ⟨x114,x116,x117,x118⟩:=hcs.out _ hB3.out;have hsr:=qh ((hha.out.below hB3.out).src hcel_len hcel_one (by decide));have hbb:=qh hB3.out.size;go_upto_region 8 with (at_builtin;refine wpList_append_row (f:=hcel) (M:=HH) _ rfl _ _ 77 rfl w.heap.size 71 i1 (.agg #[.int .i64 0,.int .u64 0]) 2 16 Tryz.underlying77 hi1 hyA hyB hyC rfl (by decide) (.slice va LH.length vc) LH rfl hrH3.out _ rfl hsr.out hm1.out hy1.out hbb.out ?_;intro a4 c4 w4 hr4 hu4 ha4;replace hr4:=qh hr4;replace hu4:=qh hu4;replace ha4:=qh ha4);have hB4:=qh (hB3.out.trans (hu4.out.below hB3.out.size (fun b hb=>(hrH3.out.lt b (by simpa using hb)).1)));have hrS4:=qh (hrS3.out.upd hu4.out hdj.out.nin);have hdj4:=qh (hdj.out.left ha4.out hrS3.out.lt);clear x114 x116 x117 x118 hsr hbb hrS3 ha4 hu4 hdj;obtain ⟨x114,x116,x117,x118⟩:=hcs.out _ hB4.out;have hsr:=qh ((hka.out.below hB4.out).src scell_len scell_one (by decide));have hbb:=qh hB4.out.size;go_upto_region 9 with (at_builtin;refine wpList_append_row (f:=scell) (M:=KK) _ rfl _ _ 96 rfl w.heap.size 9 i0 (.string ⟨#[]⟩) 1 16 Tryz.underlying96 hi0 hzA hzB hzC rfl (by decide) (.slice sa LS.length sc) LS rfl hrS4.out _ rfl hsr.out hm2.out hy2.out hbb.out ?_;intro a5 c5 w5 hr5 hu5 ha5;replace hr5:=qh hr5;replace hu5:=qh hu5;replace ha5:=qh ha5);have hB5:=qh (hB4.out.trans (hu5.out.below hB4.out.size (fun b hb=>(hrS4.out.lt b (by simpa using hb)).1)))
   have hrH5:=qh (hr4.out.upd hu5.out hdj4.out.swap.nin);have hdj5:=qh (hdj4.out.swap.left ha5.out hr4.out.lt);clear x114 x116 x117 x118 hsr hbb hr4 hdj4 ha5 hu5;obtain ⟨x114,x116,x117,x118⟩:=hcs.out _ hB5.out;have hwi:IntKind.i64.wrap (((i:Nat):Int)+1)=((i+1:Nat):Int):=by rw [show ((i:Nat):Int)+1=((i+1:Nat):Int) by omega];exact IntWalk.i64_in _ (by omega)
   cases bd
   ·skip
    go_wp2_with fail;go_roundg (N - i)
    case rel =>
     refine ⟨i+1,by omega,by omega,congrArg _ (by omega),?_,?_,hdj5.out.swap,hB5.out⟩
     ·have:=hrH5.out
      rw [hk.out];exact this
     ·have:=hr5.out
      rw [hw.out];simpa using this
    case measure=>omega
   ·skip
    obtain ⟨hm3,hy3⟩:=(hm3 rfl).out;obtain ⟨MM,hMM⟩:∃ MM,MM=LS++KK:=⟨_,rfl⟩;have hml:LS.length+KK.length=MM.length:=by rw [hMM,List.length_append]
    rw [← hMM] at hr5 hm3 hy3 hw;rw [hml] at hr5 hdj5 ⊢;have hA6:=qh ((Below.refl w5.heap.size w5).alloc (Nat.le_refl _) (.cells #[.string hi] 9));have hs6:=qh (SrcOf.one w5 9 [.string hi] (by intro y hy;simp at hy;subst hy;rfl));have hB6:=qh (hB5.out.trans (hA6.out.mono hB5.out.size));have hbb:=qh hB6.out.size;have hr6:=qh (hr5.out.below hA6.out);have hrH6:=qh (hrH5.out.below hA6.out);replace hm3:=qh hm3;replace hy3:=qh hy3;replace hMM:=qh hMM;replace hml:=qh hml
    go_wp2_with (at_builtin;refine wpList_append_row (f:=scell) (M:=[hi]) _ rfl _ _ 96 rfl w.heap.size 9 i0 (.string ⟨#[]⟩) 1 16 Tryz.underlying96 hi0 hzA hzB hzC rfl (by decide) (.slice a5 MM.length c5) MM rfl hr6.out _ rfl hs6.out hm3.out hy3.out hbb.out ?_;intro a7 c7 w7 hr7 hu7 ha7;replace hr7:=qh hr7;replace hu7:=qh hu7;replace ha7:=qh ha7)
    go_roundg (N - i)
    case rel =>
     refine ⟨i+1,by omega,by omega,congrArg _ (by omega),?_,?_,?_,hB6.out.trans (hu7.out.below hB6.out.size (fun b hb=>(hr6.out.lt b (by simpa using hb)).1))⟩
     ·have:=hrH6.out.upd hu7.out hdj5.out.nin
      rw [hk.out];exact this
     ·have:=hr7.out
      rw [hw.out];simpa using this
     ·exact (hdj5.out.left ha7.out hrH6.out.lt).swap
    case measure=>omega
  ·skip
   obtain rfl:i=N:=by omega
   rw [List.take_of_length_le (by rw [hN.out];exact Nat.le_refl _)] at hrH hrS hdj ⊢;rw [hk1.out] at hrH hdj ⊢;have hgS:∀ (k:Nat) (x:Hd×BN Sl),S[k]?=some x→(S.map (·.1))[k]?=some x.1:=fun k x hx=>(by rw [List.getElem?_map,hx];rfl)
   have hsl:(S.map (·.1)).length=S.length:=List.length_map _;obtain ⟨LH,hLH⟩:∃ X,X=S.map (·.1):=⟨_,rfl⟩;rw [← hLH] at hrH hdj hgS hsl ⊢;obtain ⟨LS,hLS⟩:∃ X,X=wants R:=⟨_,rfl⟩;rw [← hLS] at hrS hdj hk2 hk3 ⊢;replace hgS:=qh hgS;obtain ⟨n2,hn2⟩:∃ X,X=LH.length:=⟨_,rfl⟩;rw [← hn2] at hrH hdj hsl ⊢;replace hLH:=qh hLH;replace hLS:=qh hLS;replace hrH:=qh hrH;replace hrS:=qh hrS;replace hn2:=qh hn2;clear hdj;have hsl2:Hid (n2=LS.length+1):=qh (by omega);replace hsl:=qh hsl;replace hk2:=qh hk2;go_wp2_with fail
   go_loopg [63] (n2+1) (fun gk v63 wz=>∃ (k:Nat),gk=n2+1 - k∧k≤n2∧v63=.int .i64 ((k:Nat):Int)∧Row w.heap.size 71 2 hcel wz (.slice va n2 vc) LH∧Row w.heap.size 9 1 scell wz (.slice sa LS.length sc) LS∧Below w.heap.size w wz)
   case atStart=>exact ⟨0,rfl,Nat.zero_le _,rfl,hrH.out,hrS.out,hB⟩
   case round =>
    clear hrH hrS hB;obtain ⟨k,rfl,hkN,rfl,hrH,hrS,hB⟩:=hrel;by_cases hlk:k < n2
    ·skip
     obtain ⟨x,hx⟩:∃ x,S[k]?=some x:=⟨_,List.getElem?_eq_getElem (by have:=hsl.out;omega)⟩;have hxm:=List.mem_of_getElem? hx;obtain ⟨e,nd,_,hbn,_,_,_,hc,hsn,hG⟩:=hEn.out x (hmS.out x hxm);obtain ⟨q,hq⟩:∃ q,q=e.blk:=⟨_,rfl⟩;rw [← hq] at hc hG;have hHi:=qh fun W hW=>hsn.high hc (W:=W) hW
     rw [hbn] at hHi;have hkx:=hk3.out k x hx;obtain ⟨⟨x1,n⟩,rfl⟩:∃ y:Hd×BN Sl,y=x:=⟨x,rfl⟩;simp only at hG hHi hkx
     have hrc:∃ pb,va=some ⟨pb,0,none⟩∧wr.cell? ⟨pb,k*2,none⟩=some (.int .i64 x1.1)∧wr.cell? ⟨pb,k*2+1,none⟩=some (.int .u64 x1.2)∧pb < wr.heap.size∧n2≤vc:=by
      obtain ⟨b',c',ev,_,_,hb2,h5,_,_,hat⟩:=hrH.at (hgS.out k _ hx);injection ev with ev _ ev2;subst ev ev2;exact ⟨b',rfl,hat 0 _ rfl,hat 1 _ rfl,hb2,by rw [hn2.out];exact h5⟩
     obtain ⟨pv,rfl,k0,k1,kl,hNc⟩:=hrc;have hql:q < wr.heap.size:=Nat.lt_of_lt_of_le (heap_lt hc) hB.size;have hilt:((k:Nat):Int) < ((n2:Nat):Int):=by omega
     have hi0z:(0:Int)≤((k:Nat):Int):=by omega
     replace hB:=qh hB;replace hbn:=qh hbn;replace hc:=qh hc;replace hsn:=qh hsn;replace hG:=qh hG;replace hq:=qh hq;replace hx:=qh hx;replace hxm:=qh hxm;replace hrH:=qh hrH;replace hrS:=qh hrS;replace hkx:=qh hkx;go_upto_region 15 with fail;clear k0 k1 kl;have hBa:=hB.out.alloc hB.out.size (.cells #[.int .i64 x1.1,.int .u64 x1.2] 71);have hA1:=qh ((Below.refl wr.heap.size wr).alloc (Nat.le_refl _) (.cells #[.int .i64 x1.1,.int .u64 x1.2] 71));have hbx:(wr.alloc (.cells #[.int .i64 x1.1,.int .u64 x1.2] 71)).heap[wr.heap.size]?=some (.cells #[.int .i64 x1.1,.int .u64 x1.2] 71):=heap_alloc_new _ _;generalize wr.alloc (.cells #[.int .i64 x1.1,.int .u64 x1.2] 71)=w2 at *;obtain ⟨HB,hHB⟩:∃ b,b=wr.heap.size:=⟨_,rfl⟩;rw [← hHB] at hbx ⊢;replace hHB:=qh hHB;replace hBa:=qh hBa;replace hbx:=qh hbx;have hBd:=hBa.out.drew;refine wp_region_late [] (S:=fun W'=>W'.cell? ⟨t,1,none⟩=some (.pointer (some ⟨A,0,none⟩))∧W'.heap[HB]?=some (.cells #[.int .i64 x1.1,.int .u64 x1.2] 71)) rfl (⟨keep hBd c1,Below.heap' (Below.refl _ _).drew hbx.out⟩) (fun hHeld=>?_)
     try dsimp only at hHeld
     refine tkW 0 ?_;refine tkW 1 ?_;refine tkW 2 ?_;refine tkM 3 ?_ (hz:=by rintro w ⟨e1,e2⟩;obtain ⟨b0,b1,bq,bf0,bf1⟩:=box2 e2;exact zf);refine tkM 4 ?_ (hz:=by rintro w ⟨e1,e2⟩;obtain ⟨b0,b1,bq,bf0,bf1⟩:=box2 e2;exact zf);refine rdM 5 ?_;intro K hK;go_simp;go_at_call 62;refine (hG.out _ hBd).mono ?_;rintro z3 w3 ⟨rfl,hb⟩;have hB3:=hBd.trans (hb.mono hBd.size);have hS1:w3.cell? ⟨t,1,none⟩=some (.pointer (some ⟨A,0,none⟩))∧w3.heap[HB]?=some (.cells #[.int .i64 x1.1,.int .u64 x1.2] 71):=⟨keep hB3 c1,Below.heap' hb (Below.heap' (Below.refl _ _).drew hbx.out)⟩;have hA3:=qh ((((Below.refl w2.heap.size w2).drew).trans hb).trans (Below.refl _ _));clear hb;replace hB3:=qh hB3;go_wp2_with fail;refine hK.out _ _ (fun _ _=>hS1) ?_;clear hHeld hK K;have hHeld:=hS1;clear hS1
     try simp only [Act.put,zs1,zs2,zs3]
     try simp only [Act.put]
     refine tkW 6 ?_;refine tkW 7 ?_;refine tkW 8 ?_;refine tkW 9 ?_;refine tkW 10 ?_;refine wpAnyM_done (by kernel_rfl) ?_ _
     try simp only [Exit.then]
     clear hHeld hBd;have hrH3:=qh ((hrH.out.below hA1.out).below hA3.out);have hrS3:=qh ((hrS.out.below hA1.out).below hA3.out);clear hA1 hA3 hrH hrS;go_wp2_with fail;refine (hHi.out _ hB3.out).mono ?_;rintro z4 w4 ⟨hv,rfl,hhv,hb⟩;have hB4:=qh (hB3.out.trans (hb.mono hB3.out.size));have hrH4:=qh (hrH3.out.below hb);have hrS4:=qh (hrS3.out.below hb);clear hb hrH3 hrS3;obtain ⟨bd,hbd⟩:∃ X,X=n.bnd:=⟨_,rfl⟩;rw [← hbd] at hkx hhv ⊢;replace hbd:=qh hbd;have hwi:IntKind.i64.wrap (((k:Nat):Int)+1)=((k+1:Nat):Int):=by rw [show ((k:Nat):Int)+1=((k+1:Nat):Int) by omega];exact IntWalk.i64_in _ (by have:=hsl.out;omega)
     cases bd
     ·skip
      replace hhv:=qh hhv;go_wp2_with fail;go_roundg (n2 - k)
      case rel=>exact ⟨k+1,by omega,by omega,congrArg _ (by omega),hrH4.out,hrS4.out,hB4.out⟩
      case measure=>omega
     ·skip
      have hh:=hhv rfl;have hkk:=hkx.out rfl;rw [← hh] at hkk
      obtain ⟨b9,c9,ev,hrc9⟩:∃ b9 c9,Value.slice sa LS.length sc=.slice (some ⟨b9,0,none⟩) LS.length c9∧(k < LS.length∧LS.length≤c9∧b9 < w4.heap.size∧w4.cell? ⟨b9,k,none⟩=some (.string hv)):=by
       obtain ⟨b',c',ev,_,_,hb2,h5,_,h6,hat⟩:=hrS4.out.at hkk;have h7:=hat 0 _ rfl;rw [Nat.mul_one,Nat.add_zero] at h7;exact ⟨b',c',ev,h6,h5,hb2,h7⟩
      injection ev with ev _ ev2;subst ev ev2;obtain ⟨hkS,hSc,hb9,hk9⟩:=hrc9;have hkS2:((k:Nat):Int) < ((LS.length:Nat):Int):=by omega
      have hge:decide (((LS.length:Nat):Int)≤((k:Nat):Int))=false:=by rw [decide_eq_false_iff_not];omega
      replace hkk:=qh hkk;replace hh:=qh hh;clear hhv;go_wp2_with fail;go_roundg (n2 - k)
      case rel=>exact ⟨k+1,by omega,by omega,congrArg _ (by omega),hrH4.out,hrS4.out,hB4.out⟩
      case measure=>omega
    ·skip
     obtain rfl:k=n2:=by omega
     replace hrH:=qh hrH;replace hrS:=qh hrS;have hle:(((k:Nat):Int) == ((LS.length:Nat):Int)+1)=true:=by rw [beq_iff_eq];have:=hsl2.out;omega
     have hwi:IntKind.i64.wrap (((LS.length:Nat):Int)+1)=((LS.length:Nat):Int)+1:=IntWalk.i64_in _ (by have:=hsl2.out;have:=hsl.out;omega);have hBh:=qh hB;clear hB;go_wp2_with fail
     have hfin:KdE w (S.map (·.1)) (.returned (.tuple #[.slice va k vc,.bool true])) wr:=by
      refine ⟨va,vc,?_,?_,hBh.out⟩
      ·rw [← hLH.out,← hn2.out]
      ·rw [← hLH.out,← hn2.out];exact hrH.out
     exact bodyPost_ret (v:=.tuple #[.slice va k vc,.bool true]) (by simp [results,Tryz.results106,go_sem]) rfl hfin
open Go.Lib
section
variable {α γ:Type}
theorem sum_add2 (l:List α) (f g:α→Nat):(l.map fun x=>f x+g x).sum=(l.map f).sum+(l.map g).sum:=by
 induction l with
 | nil=>rfl
 | cons x l ih=>simp only [List.map_cons,List.sum_cons,ih];omega
theorem sum_zero2 {l:List α} {f:α→Nat} (h:∀ x,x∈l→f x=0):(l.map f).sum=0:=by
 induction l with
 | nil=>rfl
 | cons x l ih=>rw [List.map_cons,List.sum_cons,h x (by simp),ih fun y hy=>h y (by simp [hy])]
theorem sum_congr2 {l:List α} {f g:α→Nat} (h:∀ x,x∈l→f x=g x):(l.map f).sum=(l.map g).sum:=by
 rw [List.map_congr_left h]
theorem sum_comm2 (l:List α) (m:List γ) (f:α→γ→Nat):(l.map fun x=>(m.map fun y=>f x y).sum).sum=(m.map fun y=>(l.map fun x=>f x y).sum).sum:=by
 induction l with
 | nil=>exact (sum_zero2 fun _ _=>rfl).symm
 | cons x l ih =>
  simp only [List.map_cons,List.sum_cons,ih];exact (sum_add2 m _ _).symm
theorem sum_one2:∀ {l:List α} {f:α→Nat} {a:α},l.Nodup→a∈l→(∀ b,b∈l→b≠a→f b=0)→(l.map f).sum=f a
 | [],_,_,_,h,_=>by simp at h
 | x::l,f,a,hn,ha,h0=>by
  rw [List.nodup_cons] at hn;rw [List.map_cons,List.sum_cons];rcases List.mem_cons.1 ha with rfl | h1
  ·rw [sum_zero2 fun y hy=>h0 y (by simp [hy]) fun e=>hn.1 (by rw [← e];exact hy)]
   rfl
  ·rw [h0 x (by simp) fun e=>hn.1 (by rw [e];exact h1),sum_one2 hn.2 h1 fun b hb hne=>h0 b (by simp [hb]) hne,Nat.zero_add]
end
def wsum (g:Ly→Nat) (F:List Ly) (p:Byt):Nat:=(F.map fun y=>if p.isPrefixOf y.pre then g y else 0).sum
section
variable {F:List Ly} {l y:Ly} {C:Cont Str} {k:Str}
theorem wsum_nil (g:Ly→Nat) (F:List Ly):wsum g F []=(F.map g).sum:=by
 unfold wsum
 exact sum_congr2 fun x _=>by simp
theorem mk_ext {a b:Mk} (h:a.s=b.s) (h2:a.c=b.c):a=b:=by
 cases a;cases b;simp only at h h2;rw [h,h2]
theorem MOK.ndF (h:MOK F):F.Nodup:=by
 have:=List.pairwise_map.1 h.pre
 exact this.imp fun hab e=>hab (by rw [e])
theorem MOK.up2 (h:MOK F) (hy:y∈F) (hne:y.pre≠[]):∃ l',l'∈F∧∃ x,x∈content l'.Ls∧x.2.deep=true∧y.pre=l'.pre++ube 8 x.2.m.s:=h.up y hy hne
theorem MOK.desc (h:MOK F) (hl:l∈F):∀ (n:Nat) (y:Ly),y∈F→y.pre.length≤n→l.pre <+: y.pre→y=l∨∃ x,x∈content l.Ls∧x.2.deep=true∧(l.pre++ube 8 x.2.m.s) <+: y.pre:=by
 intro n
 induction n with
 | zero =>
  intro y hy hn hp;have h0:y.pre=[]:=List.eq_nil_of_length_eq_zero (by omega);rw [h0] at hp;exact .inl (h.uniq hy hl (by rw [h0];exact (List.prefix_nil.1 hp).symm))
 | succ n ih =>
  intro y hy hn hp;by_cases he:y.pre=l.pre
  ·exact .inl (h.uniq hy hl he)
  ·have hne:y.pre≠[]:=fun e=>he (by rw [e] at hp;rw [e,List.prefix_nil.1 hp])
   obtain ⟨l',hl',x',hx',hd',e'⟩:=h.up2 hy hne;obtain ⟨a,ha⟩:=h.eights l.pre.length l hl (Nat.le_refl _);obtain ⟨b,hb⟩:=h.eights y.pre.length y hy (Nat.le_refl _);have hlen:=congrArg List.length e';rw [List.length_append,ube_len] at hlen;have hlt:l.pre.length≠y.pre.length:=fun e=>he (hp.eq_of_length e).symm
   have hle:=hp.length_le;have hp':l.pre <+: l'.pre:=List.prefix_of_prefix_length_le hp ⟨_,e'.symm⟩ (by omega);rcases ih l' hl' (by omega) hp' with rfl | ⟨x,hx,hd,hq⟩
   ·exact .inr ⟨x',hx',hd',by rw [e'];exact List.prefix_refl _⟩
   ·exact .inr ⟨x,hx,hd,hq.trans ⟨_,e'.symm⟩⟩
theorem MOK.ndC (h:MOK F) (hl:l∈F):(content l.Ls).Nodup:=by
 have:=h.srt hl
 refine List.Pairwise.imp ?_ this
 intro a b hab e
 rw [e] at hab
 have:=slt_irrefl b.1
 rw [this] at hab
 cases hab
theorem MOK.one2 (h:MOK F) (hl:l∈F) {x z:Str×Sl} (hx:x∈content l.Ls) (hz:z∈content l.Ls) (dx:x.2.deep=true) (dz:z.2.deep=true) {p:Byt} (px:(l.pre++ube 8 x.2.m.s) <+: p) (pz:(l.pre++ube 8 z.2.m.s) <+: p):x=z:=by
 have e1:=List.prefix_of_prefix_length_le px pz (by rw [List.length_append,List.length_append,ube_len,ube_len];exact Nat.le_refl _)
 have e2:=e1.eq_of_length (by rw [List.length_append,List.length_append,ube_len,ube_len])
 have e3:=List.append_cancel_left e2
 obtain ⟨kx,ox⟩:=h.key l hl x hx
 obtain ⟨kz,oz⟩:=h.key l hl z hz
 have e4:x.2.m.s=z.2.m.s:=by
  have:=congrArg be e3
  rwa [ube_be_le (by simpa using ox.m.b.1),ube_be_le (by simpa using oz.m.b.1)] at this
 have e5:x.2.m=z.2.m:=by
  have h1:=(ox.dp dx).1;have h2:=(oz.dp dz).1;exact mk_ext e4 (h1.trans h2.symm)
 have e6:x.1=z.1:=by rw [kx,kz,e5]
 have g1:=(h.cget hl (x:=x.1) (s:=x.2)).2 hx
 have g2:=(h.cget hl (x:=z.1) (s:=z.2)).2 hz
 rw [e6,g2] at g1
 injection g1 with g1
 exact Prod.ext e6 g1.symm
def below (g:Ly→Nat) (F:List Ly) (p:Byt) (x:Str×Sl):Nat:=if x.2.deep then wsum g F (p++ube 8 x.2.m.s) else 0
theorem isPre {a b:Byt}:a.isPrefixOf b=true↔a <+: b:=List.isPrefixOf_iff_prefix
theorem MOK.wsum (h:MOK F) (hl:l∈F) (g:Ly→Nat):M.wsum g F l.pre=g l+((content l.Ls).map (below g F l.pre)).sum:=by
 have hpt:∀ y,y∈F→(if l.pre.isPrefixOf y.pre then g y else 0)=(if y.pre=l.pre then g y else 0)+((content l.Ls).map fun x=>if x.2.deep then (if (l.pre++ube 8 x.2.m.s).isPrefixOf y.pre then g y else 0) else 0).sum:=fun y hy=>by
  by_cases hP:l.pre <+: y.pre
  ·rw [if_pos (isPre.2 hP)]
   by_cases he:y.pre=l.pre
   ·rw [if_pos he,sum_zero2,Nat.add_zero]
    intro x _;split
    ·rw [if_neg]
     intro hq;have:=(isPre.1 hq).length_le;rw [List.length_append,ube_len,he] at this;omega
    ·rfl
   ·rw [if_neg he,Nat.zero_add]
    rcases h.desc hl _ y hy (Nat.le_refl _) hP with rfl | ⟨x,hx,hd,hq⟩
    ·exact absurd rfl he
    ·rw [sum_one2 (h.ndC hl) hx]
     ·rw [hd,if_pos rfl,if_pos (isPre.2 hq)]
     ·intro z hz hne
      split
      ·rename_i dz
       rw [if_neg];intro hq2;exact hne (h.one2 hl hz hx dz hd (isPre.1 hq2) hq)
      ·rfl
  ·rw [if_neg fun e=>hP (isPre.1 e),if_neg fun e=>hP (by rw [e];exact List.prefix_refl _),sum_zero2]
   intro x _;split
   ·rw [if_neg]
    intro hq;exact hP ((List.prefix_append _ _).trans (isPre.1 hq))
   ·rfl
 unfold M.wsum
 rw [sum_congr2 hpt,sum_add2,sum_comm2]
 congr 1
 ·have hn:F.Nodup:=h.ndF
  rw [sum_one2 hn hl fun b hb hne=>if_neg fun e=>hne (h.uniq hb hl e),if_pos rfl]
 ·refine sum_congr2 fun x _=>?_
  unfold below M.wsum;split
  ·rename_i hd
   exact rfl
  ·rename_i hd
   exact sum_zero2 fun y _=>rfl
def belowP (F:List Ly) (p:Byt) (x:Str×Sl):Nat:=if x.2.deep then M.wsum (fun l=>((content l.Ls).map fun x=>if x.2.deep then 0 else 1).sum) F (p++ube 8 x.2.m.s) else 1
def plainN (l:Ly):Nat:=((content l.Ls).map fun x=>if x.2.deep then 0 else 1).sum
theorem MOK.wsumP (h:MOK F) (hl:l∈F):M.wsum plainN F l.pre=((content l.Ls).map (belowP F l.pre)).sum:=by
 rw [h.wsum hl plainN]
 show ((content l.Ls).map fun x=>if x.2.deep then 0 else 1).sum+_=_
 rw [← sum_add2]
 refine sum_congr2 fun x _=>?_
 unfold below belowP
 split
 ·exact Nat.zero_add _
 ·rfl
def keysOf (F:List Ly):List (Str×Str):=F.flatMap fun l=>(content l.Ls).filterMap fun x=>if x.2.deep then none else some (bs (l.pre++sb x.2),x.2.val)
theorem keysOf_len:∀ (F:List Ly),(keysOf F).length=(F.map plainN).sum
 | []=>rfl
 | l::F=>by
  unfold keysOf;rw [List.flatMap_cons,List.length_append];have:=keysOf_len F;unfold keysOf at this;rw [this,List.map_cons,List.sum_cons]
  congr 1
  unfold plainN
  induction content l.Ls with
  | nil=>rfl
  | cons x L ih =>
   rw [List.filterMap_cons,List.map_cons,List.sum_cons]
   cases hd:x.2.deep
   ·simp [hd,ih];omega
   ·simp [hd,ih]
theorem keysOf_mem (h:MCt F C) (p:Str×Str):p∈keysOf F↔p∈C:=by
 obtain ⟨k,v⟩:=p
 rw [h.mem k v]
 unfold keysOf
 rw [List.mem_flatMap]
 constructor
 ·rintro ⟨l,hl,hx⟩
  obtain ⟨x,hx,e⟩:=List.mem_filterMap.1 hx
  cases hd:x.2.deep
  ·rw [hd] at e
   simp only [Bool.false_eq_true,if_false,Option.some.injEq,Prod.mk.injEq] at e;exact ⟨l,hl,x,hx,hd,by rw [← e.1,bl_bs],e.2.symm⟩
  ·rw [hd] at e;simp at e
 ·rintro ⟨l,hl,x,hx,hd,e1,e2⟩
  refine ⟨l,hl,List.mem_filterMap.2 ⟨x,hx,?_⟩⟩;rw [hd];simp only [Bool.false_eq_true,if_false];rw [← e1,bs_bl,e2]
theorem plain_at (h:MOK F) (hl:l∈F) {x:Str×Sl} (hx:x∈content l.Ls) (hd:x.2.deep=false) (hk:bl k=l.pre++sb x.2):∃ j,On F k j l∧x.1=mT (mkAt k j)∧M.cget (content l.Ls) (mT (mkAt k j))=some x.2:=by
 obtain ⟨j,hj⟩:=h.eights _ l hl (Nat.le_refl _)
 obtain ⟨hkx,hs⟩:=h.key l hl x hx
 have e1:l.pre=(bl k).take (8*j):=by rw [hk,List.take_append_of_le_length (by omega),List.take_of_length_le (by omega)]
 have e2:keyAt k j=sb x.2:=by
  show (bl k).drop (8*j)=_
  rw [hk,← hj,List.drop_left]
 have hlt:j=0∨8*j < (bl k).length:=by
  rcases Nat.eq_zero_or_pos j with h0 | h0
  ·exact .inl h0
  ·have hne:l.pre≠[]:=fun hh=>by rw [hh] at hj;simp at hj;omega
   have hc0:=h.cls l hl hne x hx;right;refine Classical.byContradiction fun hh=>hc0 ?_
   have:sb x.2=[]:=by rw [← e2];exact List.drop_eq_nil_iff.2 (by omega)
   have h6:=mk_sb hs hd;rw [this] at h6;rw [← h6];rfl
 have e3:mkAt k j=x.2.m:=by show mkOf (keyAt k j)=_;rw [e2];exact mk_sb hs hd
 refine ⟨j,⟨hl,e1,hlt⟩,by rw [e3];exact hkx,(h.cget hl).2 ?_⟩
 rw [e3,← hkx]
 exact hx
theorem plain_one (h:MOK F) {l':Ly} (hl:l∈F) (hl':l'∈F) {x z:Str×Sl} (hx:x∈content l.Ls) (hz:z∈content l'.Ls) (dx:x.2.deep=false) (dz:z.2.deep=false) (hk:l.pre++sb x.2=l'.pre++sb z.2):l=l'∧x=z:=by
 obtain ⟨i,o1,k1,g1⟩:=plain_at (k:=bs (l.pre++sb x.2)) h hl hx dx (bl_bs _)
 obtain ⟨j,o2,k2,g2⟩:=plain_at (k:=bs (l.pre++sb x.2)) h hl' hz dz (by rw [bl_bs];exact hk)
 generalize bs (l.pre++sb x.2)=k at *
 rcases Nat.lt_trichotomy i j with hij | rfl | hij
 ·obtain ⟨l3,s3,q1,q2,q3⟩:=o2.chain h i hij
  rw [q1.uniq h o1,g1] at q2;injection q2 with q2;rw [q2,q3] at dx
  cases dx
 ·obtain rfl:=o1.uniq h o2
  refine ⟨rfl,Prod.ext (k1.trans k2.symm) ?_⟩;rw [g1] at g2;injection g2
 ·obtain ⟨l3,s3,q1,q2,q3⟩:=o1.chain h j hij
  rw [q1.uniq h o2,g2] at q2;injection q2 with q2;rw [q2,q3] at dz
  cases dz
theorem nd_le {α:Type}:∀ {l m:List α},l.Nodup→(∀ a,a∈l→a∈m)→l.length≤m.length
 | [],_,_,_=>Nat.zero_le _
 | a::l,m,hl,h=>by
  obtain ⟨s,t,rfl⟩:=List.append_of_mem (h a (by simp));rw [List.nodup_cons] at hl
  have:=nd_le (l:=l) (m:=s++t) hl.2 fun b hb=>by
   have h1:=h b (List.mem_cons_of_mem _ hb);simp only [List.mem_append,List.mem_cons] at h1 ⊢;rcases h1 with h1 | rfl | h1
   ·exact .inl h1
   ·exact absurd hb hl.1
   ·exact .inr h1
  simp at this ⊢;omega
theorem nd_fm {α γ:Type} {f:α→Option γ}:∀ {L:List α},L.Nodup→(∀ a b c,a∈L→b∈L→f a=some c→f b=some c→a=b)→(L.filterMap f).Nodup
 | [],_,_=>List.Pairwise.nil
 | x::L,hn,hu=>by
  rw [List.nodup_cons] at hn;have ih:=nd_fm hn.2 fun a b c ha hb=>hu a b c (by simp [ha]) (by simp [hb])
  rw [List.filterMap_cons]
  cases hx:f x with
  | none=>exact ih
  | some c =>
   refine List.nodup_cons.2 ⟨fun hc=>?_,ih⟩;obtain ⟨z,hz,e⟩:=List.mem_filterMap.1 hc;exact hn.1 (by rw [hu x z c (by simp) (by simp [hz]) hx e];exact hz)
theorem nd_flat {α γ:Type} {f:α→List γ}:∀ {L:List α},L.Nodup→(∀ a,a∈L→(f a).Nodup)→(∀ a b c,a∈L→b∈L→c∈f a→c∈f b→a=b)→(L.flatMap f).Nodup
 | [],_,_,_=>List.Pairwise.nil
 | x::L,hn,h1,hu=>by
  rw [List.nodup_cons] at hn;rw [List.flatMap_cons];refine List.nodup_append.2 ⟨h1 x (by simp),nd_flat hn.2 (fun a ha=>h1 a (by simp [ha])) fun a b c ha hb=>hu a b c (by simp [ha]) (by simp [hb]),fun a ha b hb e=>?_⟩;subst e;obtain ⟨z,hz,hzb⟩:=List.mem_flatMap.1 hb;exact hn.1 (by rw [hu x z a (by simp) (by simp [hz]) ha hzb];exact hz)
theorem keysOf_nd (h:MOK F):(keysOf F).Nodup:=by
 have hf:∀ (l:Ly) (x:Str×Sl) (c:Str×Str),(if x.2.deep then none else some (bs (l.pre++sb x.2),x.2.val))=some c→x.2.deep=false∧bl c.1=l.pre++sb x.2:=fun l x c e=>by
  cases hd:x.2.deep
  ·rw [hd] at e
   simp only [Bool.false_eq_true,if_false,Option.some.injEq] at e;rw [← e];exact ⟨rfl,bl_bs _⟩
  ·rw [hd] at e;simp at e
 refine nd_flat h.ndF (fun l hl=>nd_fm (h.ndC hl) fun a b c ha hb e1 e2=>?_) fun l l' c hl hl' h1 h2=>?_
 ·obtain ⟨d1,k1⟩:=hf l a c e1
  obtain ⟨d2,k2⟩:=hf l b c e2;exact (plain_one h hl hl ha hb d1 d2 (k1.symm.trans k2)).2
 ·obtain ⟨x,hx,e1⟩:=List.mem_filterMap.1 h1
  obtain ⟨z,hz,e2⟩:=List.mem_filterMap.1 h2;obtain ⟨d1,k1⟩:=hf l x c e1;obtain ⟨d2,k2⟩:=hf l' z c e2;exact (plain_one h hl hl' hx hz d1 d2 (k1.symm.trans k2)).1
theorem MCt.plainC (h:MOK F) (hc:MCt F C):M.wsum plainN F []=C.length:=by
 rw [wsum_nil,← keysOf_len]
 have h1:=keysOf_nd h
 have h2:C.Nodup:=by
  refine List.Pairwise.imp ?_ hc.srt;intro a b hab e;rw [e,slt_irrefl] at hab
  cases hab
 exact Nat.le_antisymm (nd_le h1 fun a ha=>(keysOf_mem hc a).1 ha) (nd_le h2 fun a ha=>(keysOf_mem hc a).2 ha)
end
open Go.RowKit
theorem row_lit (w:World) (base:Nat) (h:Hd) (hb:base≤w.heap.size):Row base 71 2 hcel (w.alloc (.cells #[.int .i64 h.1,.int .u64 h.2] 71)) (.slice (some ⟨w.heap.size,0,none⟩) 1 1) [h] :=
 ⟨hcel_len,hcel_one,World.ownsRow_lit w #[.int .i64 h.1,.int .u64 h.2] 1 hb (by unfold maxLen;omega) rfl⟩
def SndE (w:World) (a b c:Nat) (e:Ending) (w':World):Prop:=e=.returned (.tuple #[.int .i64 ((a:Nat):Int),.int .i64 ((b:Nat):Int),.int .i64 ((c:Nat):Int),.bool true])∧Below w.heap.size w w'
theorem LFOK.pair {f:LF} (h:LFOK f) {r:Nat} (hr:r < f.n):f.bn.pairs[r]?=some (mT (f.slot r).m,f.slot r):=by
 unfold BN.pairs
 rw [List.getElem?_zip_eq_some]
 exact ⟨h.kget hr,h.vget hr⟩
theorem LFOK.plen {f:LF} (h:LFOK f):f.bn.pairs.length=f.n:=by
 unfold BN.pairs
 rw [List.length_zip,h.klen]
 have:f.bn.vals.length=f.n:=h.len
 rw [this,Nat.min_self]
theorem sum_part {α:Type} (f:α→Nat) {L A:List α} {x:α} (h:∃ B,L=A++x::B):((A++[x]).map f).sum≤(L.map f).sum:=by
 obtain ⟨B,rfl⟩:=h
 simp only [List.map_append,List.map_cons,List.map_nil,List.sum_append,List.sum_cons,List.sum_nil]
 omega
theorem sum_snoc {α:Type} (f:α→Nat) (A:List α) (x:α):((A++[x]).map f).sum=(A.map f).sum+f x:=by simp
theorem cont_take {β:Type} {R:Lev β} {i:Nat} {x:Hd×BN β} (hx:R[i]?=some x):cont (R.take (i+1))=cont (R.take i)++x.2.pairs:=by
 rw [List.take_add_one,hx]
 unfold cont
 simp
theorem cont_at {β:Type} {R:Lev β} {i r:Nat} {x:Hd×BN β} {p:Str×β} (hx:R[i]?=some x) (hp:x.2.pairs[r]?=some p):∃ B,cont R=(cont (R.take i)++x.2.pairs.take r)++p::B:=by
 obtain ⟨h1,h2⟩:=List.getElem?_eq_some_iff.1 hp
 obtain ⟨h3,h4⟩:=List.getElem?_eq_some_iff.1 hx
 refine ⟨x.2.pairs.drop (r+1)++cont (R.drop (i+1)),?_⟩
 have e1:R=R.take i++x::R.drop (i+1):=by rw [← h4,← List.drop_eq_getElem_cons,List.take_append_drop]
 have e2:x.2.pairs=x.2.pairs.take r++p::x.2.pairs.drop (r+1):=by rw [← h2,← List.drop_eq_getElem_cons,List.take_append_drop]
 have e3:cont R=cont (R.take i)++(x.2.pairs++cont (R.drop (i+1))):=by
  conv=>lhs;rw [e1]
  unfold cont;rw [List.flatMap_append,List.flatMap_cons]
 rw [e3]
 conv=>lhs;rw [e2]
 simp
theorem drop_flat {β:Type} {Ls:List (Lev β)} {j:Nat} {R:Lev β} (h:Ls[j]?=some R):(Ls.drop j).flatten.length=(Ls.drop (j+1)).flatten.length+R.length∧(Ls.drop j).flatten.length≤nodes Ls:=by
 obtain ⟨h1,h2⟩:=List.getElem?_eq_some_iff.1 h
 refine ⟨by rw [List.drop_eq_getElem_cons h1,List.flatten_cons,List.length_append,h2];omega,?_⟩
 unfold nodes
 conv=>rhs;rw [← List.take_append_drop j Ls]
 rw [List.flatten_append,List.length_append]
 omega
set_option maxRecDepth 100000 in
set_option maxHeartbeats 3000000 in
theorem MTr.soundW {w0 w : World} {T : TS} {Y : List Ly} {C : Cont Str} {l : Ly} (h : MTr w0 w T Y C) (hl : l ∈ Y) (fN fL fP : Str × Sl → Nat)
    (hRec:∀ W x,x∈content l.Ls→x.2.deep=true→Below w.heap.size w W→Calls Tryz.prog 107 #[.pointer (some ⟨T.t,0,none⟩),slV x.2] W (SndE W (fN x) (fL x) (fP x)))
    (hPl:∀ x,x∈content l.Ls→x.2.deep=false→fN x=0∧fL x=0∧fP x=1)
    (hb1:nodes l.Ls+((content l.Ls).map fN).sum≤1000000000000) (hb2:1+((content l.Ls).map fL).sum≤1000000000000) (hb3:((content l.Ls).map fP).sum≤1000000000000) :
    Calls Tryz.prog 60 #[.pointer (some ⟨T.t,0,none⟩),hV l.r] w (SndE w (nodes l.Ls+((content l.Ls).map fN).sum) (1+((content l.Ls).map fL).sum) ((content l.Ls).map fP).sum):=by
 have c1:=h.am.cells.2.1
 have htw:=h.sane.ok.tow l hl
 obtain ⟨n0,htop⟩:=h.sane.top l hl
 have hl0:0 < l.Ls.length:=by have:=(List.getElem?_eq_some_iff.1 htop).1;omega
 have hEn:=qh fun (x:Hd×BN Sl) (hx:x∈l.Ls.flatten)=>h.node (x:=x) (List.mem_flatMap.2 ⟨l,hl,hx⟩)
 have hRw:Hid (∀ (W:World) (j:Nat) (R:Lev Sl) (a:Option Addr) (c:Nat),Below w.heap.size w W→l.Ls[j]?=some R→Row w.heap.size 71 2 hcel W (.slice a R.length c) (R.map (·.1))→Calls Tryz.prog 105 #[.pointer (some ⟨T.t,0,none⟩),.slice a R.length c] W fun e w'=>e=.returned (.bool true)∧Below W.heap.size W w'):=qh fun W j R a c hW hR hrow=>(h.on (h.am.below hW)).row hl hR hrow
 have hKd:Hid (∀ (W:World) (j:Nat) (S R:Lev Sl) (a:Option Addr) (c:Nat),Below w.heap.size w W→l.Ls[j]?=some S→l.Ls[j+1]?=some R→Row w.heap.size 71 2 hcel W (.slice a R.length c) (R.map (·.1))→Calls Tryz.prog 106 #[.pointer (some ⟨T.t,0,none⟩),.slice a R.length c] W (KdE W (S.map (·.1)))):=qh fun W j S R a c hW hS hR hrow=>(h.on (h.am.below hW)).kids hl hS hR hrow
 have hlf:∀ (j:Nat) (R:Lev Sl),l.Ls[j]?=some R→(∀ x,x∈R→x.2.leaf=decide (j=0))∧0 < R.length:=fun j R hR=>by
  have hok:=htw.ok j R hR;refine ⟨hok.lf,?_⟩
  cases R with
  | nil=>have:=hok.seg;simp [Seg] at this
  | cons x R=>simp
 have hkey:=h.sane.ok.key l hl
 obtain ⟨R0,hR0⟩:∃ R,l.Ls[0]?=some R:=⟨_,List.getElem?_eq_getElem hl0⟩
 have hcon:content l.Ls=cont R0:=content_of hR0
 rw [hcon] at hRec hPl hb1 hb2 hb3 hkey ⊢
 have hlen:∀ (k:Nat) (Q:Lev Sl),l.Ls[k]?=some Q→Q.length≤20000:=fun k Q hQ=>by
  obtain ⟨X,Z,e1,_⟩:=lev_set (S':=[]) hQ;have:=h.sane.nod l hl;unfold nodes at this;rw [e1] at this;simp at this;omega
 have hmf:∀ (j:Nat) (R:Lev Sl),l.Ls[j]?=some R→∀ x,x∈R→x∈l.Ls.flatten:=fun j R hR x hx=>mem_flat hR hx
 obtain ⟨A,hA⟩:∃ a,a=T.d.A.a:=⟨_,rfl⟩
 rw [← hA] at c1 hEn
 obtain ⟨t,ht⟩:∃ t,t=T.t:=⟨_,rfl⟩
 rw [← ht] at c1 hRw hKd hRec ⊢
 have htl:=block_lt_of_cell c1
 clear h hl htw hcon
 obtain ⟨⟨pre,Ls,r1⟩,rfl⟩:∃ y:Ly,y=l:=⟨l,rfl⟩
 simp only at htop hl0 hEn hRw hKd hlf hkey hR0 hRec hPl hb1 hb2 hb3 hlen hmf ⊢
 have hst:=qh (row_lit (w.alloc (.cells #[.int .i64 r1.1,.int .u64 r1.2] 71)) w.heap.size r1 (Below.alloc (Below.refl w.heap.size w) (Nat.le_refl _) _).size)
 have hstB:=qh (((Below.refl w.heap.size w).alloc (Nat.le_refl _) (.cells #[.int .i64 r1.1,.int .u64 r1.2] 71)).alloc (Below.alloc (Below.refl w.heap.size w) (Nat.le_refl _) _).size (.cells #[.int .i64 r1.1,.int .u64 r1.2] 71))
 replace hA:=qh hA
 replace ht:=qh ht
 replace hR0:=qh hR0
 replace hRec:=qh hRec
 replace hPl:=qh hPl
 replace hb1:=qh hb1
 replace hb2:=qh hb2
 replace hb3:=qh hb3
 replace hlen:=qh hlen
 replace hmf:=qh hmf
 replace hlf:=qh hlf
 replace hkey:=qh hkey
 replace htop:=qh htop
 unfold hV at hEn ⊢
 unfold slV at hRec
 go_enter Tryz.func60,Tryz.ntmps60
 go_wp2_with fail
 go_loopg [8,4,6] Ls.length (fun gk v8 v4 v6 wr=>∃ (j:Nat) (R:Lev Sl) (ra:Option Addr) (rc:Nat),gk=j+1∧Ls[j]?=some R∧v8=.slice ra R.length rc∧v6=.int .i64 0∧v4=.int .i64 (((Ls.drop (j+1)).flatten.length:Nat):Int)∧Row w.heap.size 71 2 hcel wr (.slice ra R.length rc) (R.map (·.1))∧Below w.heap.size w wr)
 case atStart =>
  refine ⟨Ls.length - 1,[(r1,n0)],some ⟨w.heap.size+1,0,none⟩,1,by omega,htop.out,rfl,rfl,?_,(by have:=hst.out;rw [World.size_alloc] at this;exact this),hstB.out⟩;rw [List.drop_eq_nil_of_le (by omega)];rfl
 case round =>
  clear hst hstB htop;obtain ⟨j,R,ra,rc,rfl,hR,rfl,rfl,rfl,hrow,hB⟩:=hrel;have hRlen:=hlen.out _ _ hR;obtain ⟨hdf,hdn⟩:=drop_flat hR;obtain ⟨hRlf,hR0l⟩:=hlf.out _ _ hR;have hdn2:(Ls.drop j).flatten.length≤1000000000000:=by have:=hb1.out;omega
  have hwd:IntKind.i64.wrap ((((Ls.drop (j+1)).flatten.length:Nat):Int)+((R.length:Nat):Int))=(((Ls.drop j).flatten.length:Nat):Int):=by rw [hdf,Int.natCast_add];exact IntWalk.i64_in _ (by omega)
  have hRW1:=qh (hRw.out wr j R ra rc hB hR hrow);obtain ⟨x,hx⟩:∃ x,R[0]?=some x:=⟨_,List.getElem?_eq_getElem hR0l⟩;have hxm:=List.mem_of_getElem? hx;obtain ⟨e,nd,_,hbn,_,_,_,hc,hsn,hG⟩:=hEn.out x (hmf.out j R hR x hxm);obtain ⟨q,hq⟩:∃ q,q=e.blk:=⟨_,rfl⟩;rw [← hq] at hc hG
  have hlow:Hid (∀ W,Below w.heap.size w W→W.cell? ⟨q,1,none⟩=some (.bool (decide (j=0)))):=qh fun W hW=>by
   have:=hsn.low hc;rw [hbn,hRlf x hxm] at this;exact keep hW this
  have hrc:∃ pb,ra=some ⟨pb,0,none⟩∧(∀ W,Row w.heap.size 71 2 hcel W (.slice ra R.length rc) (R.map (·.1))→W.cell? ⟨pb,0,none⟩=some (.int .i64 x.1.1)∧W.cell? ⟨pb,1,none⟩=some (.int .u64 x.1.2)∧pb < W.heap.size)∧R.length≤rc:=by
   obtain ⟨b',c',ev,_,_,hb2,h5,_,_,hat⟩:=hrow.at (i:=0) (x:=x.1) (by rw [List.getElem?_map,hx];rfl);injection ev with ev _ ev2;subst ev ev2;refine ⟨b',rfl,fun W hW=>?_,by rw [List.length_map] at h5;exact h5⟩;obtain ⟨b2,c2,ev,_,_,hb3,h6,_,_,hat2⟩:=hW.at (i:=0) (x:=x.1) (by rw [List.getElem?_map,hx];rfl);injection ev with ev;injection ev with ev;injection ev with ev;subst ev;exact ⟨by have:=hat2 0 _ rfl;simpa using this,by have:=hat2 1 _ rfl;simpa using this,hb3⟩
  obtain ⟨pa,rfl,hpa,hNc⟩:=hrc;obtain ⟨⟨x1,n⟩,rfl⟩:∃ y:Hd×BN Sl,y=x:=⟨x,rfl⟩;simp only at hG hpa hbn;obtain ⟨nd1,hnd1⟩:∃ m,m=(Ls.drop (j+1)).flatten.length:=⟨_,rfl⟩;obtain ⟨nd2,hnd2⟩:∃ m,m=(Ls.drop j).flatten.length:=⟨_,rfl⟩;rw [← hnd1] at hwd hdf ⊢;rw [← hnd2] at hwd hdn hdn2 hdf;obtain ⟨N,hN⟩:∃ m,m=R.length:=⟨_,rfl⟩;rw [← hN] at hR0l hRW1 hrow hwd hdf hNc hpa hRlen ⊢;replace hrow:=qh hrow;replace hB:=qh hB;replace hc:=qh hc;replace hsn:=qh hsn;replace hG:=qh hG;replace hq:=qh hq;replace hx:=qh hx;replace hxm:=qh hxm;replace hbn:=qh hbn;replace hR:=qh hR;replace hpa:=qh hpa;replace hnd1:=qh hnd1;replace hnd2:=qh hnd2;replace hdf:=qh hdf;replace hRlf:=qh hRlf;replace hN:=qh hN;have hN0:(0:Int) < ((N:Nat):Int):=by omega
  go_wp2_with fail;refine hRW1.out.mono ?_;rintro z1 w1 ⟨rfl,hb⟩;have hB1:=qh (hB.out.trans (hb.mono hB.out.size));have hr1:=qh (hrow.out.below hb);clear hb hRW1;obtain ⟨k0,k1,kl⟩:=hpa.out _ hr1.out;go_upto_region 5 with fail;have hBd:=hB1.out.drew;refine wp_region_late [] (S:=fun W'=>W'.cell? ⟨t,1,none⟩=some (.pointer (some ⟨A,0,none⟩))∧W'.cell? ⟨pa,0,none⟩=some (.int .i64 x1.1)∧W'.cell? ⟨pa,1,none⟩=some (.int .u64 x1.2)) rfl (⟨keep hBd c1,keep (Below.refl _ _).drew k0,keep (Below.refl _ _).drew k1⟩) (fun hHeld=>?_)
  try dsimp only at hHeld
  refine tkW 0 ?_;refine tkW 1 ?_;refine tkW 2 ?_;refine tkM 3 ?_ (hz:=by rintro w ⟨e1,e2,e3⟩;exact zf);refine tkW 4 ?_;refine tkW 5 ?_;refine tkM 6 ?_ (hz:=by rintro w ⟨e1,e2,e3⟩;exact zf);refine rdM 7 ?_;intro K hK;go_simp;go_at_call 62;refine (hG.out _ hBd).mono ?_;rintro z3 w3 ⟨rfl,hb⟩;have hB3:=hBd.trans (hb.mono hBd.size);have hr3:=qh ((hr1.out.below (Below.refl _ _).drew).below hb);obtain ⟨l0,l1,_⟩:=hpa.out _ hr3.out;have hS1:w3.cell? ⟨t,1,none⟩=some (.pointer (some ⟨A,0,none⟩))∧w3.cell? ⟨pa,0,none⟩=some (.int .i64 x1.1)∧w3.cell? ⟨pa,1,none⟩=some (.int .u64 x1.2):=⟨keep hB3 c1,l0,l1⟩;clear hb l0 l1;replace hB3:=qh hB3;go_wp2_with fail;refine hK.out _ _ (fun _ _=>hS1) ?_;clear hHeld hK K;have hHeld:=hS1;clear hS1
  try simp only [Act.put,zs1,zs2,zs3]
  try simp only [Act.put]
  refine tkW 8 ?_;refine tkW 9 ?_;refine tkW 10 ?_;refine tkW 11 ?_;refine tkW 12 ?_;refine wpAnyM_done (by kernel_rfl) ?_ _
  try simp only [Exit.then]
  clear hHeld hBd k0 k1 kl hr1 hB1;have y1:=hlow.out _ hB3.out;have hql:=block_lt_of_cell y1;rcases j with _ | j
  ·skip
   simp only [decide_true] at y1;obtain rfl:R0=R:=by have:=hR.out;rw [hR0.out] at this;injection this
   have hdf0:nd2=nodes Ls:=hnd2.out;rw [← hdf0] at hdn;have hb1b:nd2+((cont R0).map fN).sum≤1000000000000:=by rw [hdf0];exact hb1.out
   have hlfF:∀ x,x∈R0→x.2.leaf=true:=fun x hx=>by have:=hRlf.out x hx;simpa using this
   replace hdf0:=qh hdf0;replace hb1b:=qh hb1b;replace hlfF:=qh hlfF;clear hdf hRlf hR0l hwd hpa hRw hKd hlow hG hsn hc hbn hxm hx;go_wp2_with fail;clear y1 hql hq
   go_loopg [57,4,5,6] (N+1) (fun gk v57 v4 v5 v6 wz=>∃ (i:Nat),gk=N+1 - i∧i≤N∧v57=.int .i64 ((i:Nat):Int)∧v4=.int .i64 ((nd2+((cont (R0.take i)).map fN).sum:Nat):Int)∧v5=.int .i64 ((1+((cont (R0.take i)).map fL).sum:Nat):Int)∧v6=.int .i64 ((((cont (R0.take i)).map fP).sum:Nat):Int)∧Row w.heap.size 71 2 hcel wz (.slice (some ⟨pa,0,none⟩) N rc) (R0.map (·.1))∧Below w.heap.size w wz)
   case atStart=>exact ⟨0,rfl,Nat.zero_le _,rfl,rfl,rfl,rfl,hr3.out,hB3.out⟩
   case round =>
    clear hr3 hB3 hB hrow;obtain ⟨i,rfl,hiN,rfl,rfl,rfl,rfl,hrow,hB⟩:=hrel;by_cases hlt:i < N
    ·skip
     obtain ⟨x,hx⟩:∃ x,R0[i]?=some x:=⟨_,List.getElem?_eq_getElem (by rw [← hN.out];exact hlt)⟩;have hxm:=List.mem_of_getElem? hx;obtain ⟨e,nd,_,hbn,_,_,_,hc,hsn,hG⟩:=hEn.out x (hmf.out 0 R0 hR0.out x hxm);obtain ⟨q,hq⟩:∃ q,q=e.blk:=⟨_,rfl⟩;rw [← hq] at hc hG
     have hfx:∃ f:LF,x.2=f.bn∧LFOK f∧w.heap[q]?=some (.cells (.int .u64 e.gen::(Value.bool true::(lfc f++zic))).toArray 192):=by
      rcases hsn.cases with ⟨f,s1,s2,s3,s4⟩ | ⟨s1,s2,s3,ic,B,s4,s5⟩
      ·exact ⟨f,by rw [← hbn,s1],s3,by rw [← s4];exact hc⟩
      ·rw [hbn,hlfF.out x hxm] at s1;cases s1
     obtain ⟨f,hxf,hf,hcf⟩:=hfx;have hrg:=(LfAt.of (rng1 hcf)).leaf;have hll:=lfc_len hf.S;have hfn:=hf.n;have hLn:=qh fun W=>lfLen_any f hf W
     have hAt:=qh fun r (hr:r≤f.n) W=>lfAt_any f hf r hr W
     have hPr:=qh fun r (hr:r < f.n)=>hf.pair hr
     have hPl2:=hf.plen;have hct:=cont_take hx;rw [hxf] at hct
     have hcA:Hid (∀ r (hr:r < f.n),∃ B,cont R0=(cont (R0.take i)++f.bn.pairs.take r)++(mT (f.slot r).m,f.slot r)::B):=qh fun r hr=>by
      have:=cont_at (r:=r) hx (by rw [hxf];exact hf.pair hr);rw [hxf] at this;exact this
     have hrc:∃ pb,wr.cell? ⟨pb,i*2,none⟩=some (.int .i64 x.1.1)∧wr.cell? ⟨pb,i*2+1,none⟩=some (.int .u64 x.1.2)∧pb < wr.heap.size∧N≤rc∧pb=pa:=by
      obtain ⟨b',c',ev,_,_,hb2,h5,_,_,hat⟩:=hrow.at (i:=i) (x:=x.1) (by rw [List.getElem?_map,hx];rfl);injection ev with ev _ ev2;injection ev with ev;injection ev with ev;subst ev ev2;exact ⟨_,hat 0 _ rfl,hat 1 _ rfl,hb2,by rw [List.length_map] at h5;rw [hN.out];exact h5,rfl⟩
     obtain ⟨pb,k0,k1,kl,hNc2,rfl⟩:=hrc;have hql:q < wr.heap.size:=Nat.lt_of_lt_of_le (heap_lt hc) hB.size;have hilt:((i:Nat):Int) < ((N:Nat):Int):=by omega
     have hi0z:(0:Int)≤((i:Nat):Int):=by omega
     obtain ⟨⟨x1,n⟩,rfl⟩:∃ y:Hd×BN Sl,y=x:=⟨x,rfl⟩;simp only at hG hxf;unfold lfV at hLn hAt;unfold slV at hAt;obtain ⟨cs,hcs⟩:∃ cs,cs=lfc f:=⟨_,rfl⟩;rw [← hcs] at hll hrg hLn hAt;obtain ⟨D,hD⟩:∃ D,D=cont (R0.take i):=⟨_,rfl⟩;rw [← hD] at hct hcA ⊢;obtain ⟨fn,hfn2⟩:∃ m,m=f.n:=⟨_,rfl⟩;rw [← hfn2] at hfn hLn hAt hPr hPl2 hcA;have hwi:IntKind.i64.wrap (((i:Nat):Int)+1)=((i+1:Nat):Int):=by rw [show ((i:Nat):Int)+1=((i+1:Nat):Int) by omega];exact IntWalk.i64_in _ (by omega)
     replace hB:=qh hB;replace hbn:=qh hbn;replace hc:=qh hc;replace hsn:=qh hsn;replace hG:=qh hG;replace hq:=qh hq;replace hx:=qh hx;replace hxm:=qh hxm;replace hrow:=qh hrow;replace hct:=qh hct;replace hPl2:=qh hPl2;replace hxf:=qh hxf;replace hf:=qh hf;replace hcf:=qh hcf;replace hrg:=qh hrg;replace hll:=qh hll;replace hcs:=qh hcs;replace hD:=qh hD;replace hfn2:=qh hfn2;replace hNc2:=qh hNc2;go_upto_region 14 with fail;clear k0 k1 kl;have hBa:=hB.out.alloc hB.out.size (.cells #[.int .i64 x1.1,.int .u64 x1.2] 71);have hA1:=qh ((Below.refl wr.heap.size wr).alloc (Nat.le_refl _) (.cells #[.int .i64 x1.1,.int .u64 x1.2] 71));have hbx:(wr.alloc (.cells #[.int .i64 x1.1,.int .u64 x1.2] 71)).heap[wr.heap.size]?=some (.cells #[.int .i64 x1.1,.int .u64 x1.2] 71):=heap_alloc_new _ _;generalize wr.alloc (.cells #[.int .i64 x1.1,.int .u64 x1.2] 71)=w2 at *;obtain ⟨HB,hHB⟩:∃ b,b=wr.heap.size:=⟨_,rfl⟩;rw [← hHB] at hbx ⊢;replace hHB:=qh hHB;replace hBa:=qh hBa;replace hbx:=qh hbx;have hBd:=hBa.out.drew;refine wp_region_late [] (S:=fun W'=>W'.cell? ⟨t,1,none⟩=some (.pointer (some ⟨A,0,none⟩))∧W'.heap[HB]?=some (.cells #[.int .i64 x1.1,.int .u64 x1.2] 71)) rfl (⟨keep hBd c1,Below.heap' (Below.refl _ _).drew hbx.out⟩) (fun hHeld=>?_)
     try dsimp only at hHeld
     refine tkW 0 ?_;refine tkW 1 ?_;refine tkW 2 ?_;refine tkM 3 ?_ (hz:=by rintro w ⟨e1,e2⟩;obtain ⟨b0,b1,bq,bf0,bf1⟩:=box2 e2;exact zf);refine tkM 4 ?_ (hz:=by rintro w ⟨e1,e2⟩;obtain ⟨b0,b1,bq,bf0,bf1⟩:=box2 e2;exact zf);refine rdM 5 ?_;intro K hK;go_simp;go_at_call 62;refine (hG.out _ hBd).mono ?_;rintro z3 w3 ⟨rfl,hb⟩;have hB3:=hBd.trans (hb.mono hBd.size);have hS1:w3.cell? ⟨t,1,none⟩=some (.pointer (some ⟨A,0,none⟩))∧w3.heap[HB]?=some (.cells #[.int .i64 x1.1,.int .u64 x1.2] 71):=⟨keep hB3 c1,Below.heap' hb (Below.heap' (Below.refl _ _).drew hbx.out)⟩;have hA3:=qh ((((Below.refl w2.heap.size w2).drew).trans hb).trans (Below.refl _ _));clear hb;replace hB3:=qh hB3;go_wp2_with fail;refine hK.out _ _ (fun _ _=>hS1) ?_;clear hHeld hK K;have hHeld:=hS1;clear hS1
     try simp only [Act.put,zs1,zs2,zs3]
     try simp only [Act.put]
     refine tkW 6 ?_;refine tkW 7 ?_;refine tkW 8 ?_;refine tkW 9 ?_;refine tkW 10 ?_;refine wpAnyM_done (by kernel_rfl) ?_ _
     try simp only [Exit.then]
     clear hHeld hBd;have hr3:=qh ((hrow.out.below hA1.out).below hA3.out);have hql3:q < w3.heap.size:=Nat.lt_of_lt_of_le (heap_lt hcf.out) hB3.out.size;clear hA1 hA3 hrow;have hrg3:=qh (rng_below hrg.out hB3.out)
     go_wp2_with (refine wpList_load_mid rfl 95 (.tmp 72) rfl q 2 (by rfl) cs _ hrg3.out Tryz.underlying95 rfl (by rw [hll.out];kernel_rfl) ?_)
     refine (hLn.out _).mono ?_;rintro z4 w4 ⟨rfl,hb⟩;have hB4:=qh (hB3.out.trans (hb.mono hB3.out.size));have hr4:=qh (hr3.out.below hb);clear hb hr3 hrg3 hql3;go_wp2_with fail
     go_loopg [75,4,5,6] (fn+1) (fun gk v75 v4 v5 v6 wy=>∃ (r:Nat),gk=fn+1 - r∧r≤fn∧v75=.int .i64 ((r:Nat):Int)∧v4=.int .i64 ((nd2+((D++f.bn.pairs.take r).map fN).sum:Nat):Int)∧v5=.int .i64 ((1+((D++f.bn.pairs.take r).map fL).sum:Nat):Int)∧v6=.int .i64 ((((D++f.bn.pairs.take r).map fP).sum:Nat):Int)∧Row w.heap.size 71 2 hcel wy (.slice (some ⟨pb,0,none⟩) N rc) (R0.map (·.1))∧Below w.heap.size w wy)
     case atStart =>
      refine ⟨0,rfl,Nat.zero_le _,rfl,?_,?_,?_,hr4.out,hB4.out⟩ <;> rw [List.take_zero,List.append_nil] <;> first | rfl | exact congrArg _ (by omega)
     case round =>
      clear hr4 hB4;obtain ⟨r,rfl,hrn,rfl,rfl,rfl,rfl,hrow,hB5⟩:=hrel;by_cases hrl:r < fn
      ·skip
       obtain ⟨B9,hB9⟩:=hcA.out r hrl;have hpr:=hPr.out r hrl;have hAt1:=qh (hAt.out r (Nat.le_of_lt hrl));rw [decide_eq_true hrl] at hAt1;obtain ⟨s,hs⟩:∃ s,s=f.slot r:=⟨_,rfl⟩;rw [← hs] at hB9 hpr hAt1;have htk:f.bn.pairs.take (r+1)=f.bn.pairs.take r++[(mT s.m,s)]:=by rw [List.take_add_one,hpr];rfl
       obtain ⟨E,hE⟩:∃ E,E=D++f.bn.pairs.take r:=⟨_,rfl⟩;have hE2:D++f.bn.pairs.take (r+1)=E++[(mT s.m,s)]:=by rw [htk,← List.append_assoc,← hE]
       rw [← hE] at hB9 ⊢;obtain ⟨p,hp⟩:∃ p:Str×Sl,p=(mT s.m,s):=⟨_,rfl⟩;rw [← hp] at hE2 hB9;have hpm:p∈cont R0:=by rw [hB9];simp
       have hsN:=sum_part fN ⟨B9,hB9⟩;have hsL:=sum_part fL ⟨B9,hB9⟩;have hsP:=sum_part fP ⟨B9,hB9⟩;rw [sum_snoc] at hsN hsL hsP;have hps:p.2=s:=by rw [hp]
       have hRc:=fun W hd hW=>hRec.out W p hpm hd hW
       have hPp:=fun hd=>hPl.out p hpm hd
       rw [hps] at hRc hPp;have hb1c:=hb1b.out;have hb2c:=hb2.out;have hb3c:=hb3.out;obtain ⟨sN,hsN1⟩:∃ m,m=(E.map fN).sum:=⟨_,rfl⟩;obtain ⟨sL,hsL1⟩:∃ m,m=(E.map fL).sum:=⟨_,rfl⟩;obtain ⟨sP,hsP1⟩:∃ m,m=(E.map fP).sum:=⟨_,rfl⟩;rw [← hsN1] at hsN ⊢;rw [← hsL1] at hsL ⊢;rw [← hsP1] at hsP ⊢;obtain ⟨pN,hpN⟩:∃ m,m=fN p:=⟨_,rfl⟩;obtain ⟨pL,hpL⟩:∃ m,m=fL p:=⟨_,rfl⟩;obtain ⟨pP,hpP⟩:∃ m,m=fP p:=⟨_,rfl⟩;rw [← hpN] at hsN hRc hPp;rw [← hpL] at hsL hRc hPp;rw [← hpP] at hsP hRc hPp;have hql5:q < wr.heap.size:=Nat.lt_of_lt_of_le (heap_lt hcf.out) hB5.size;have hrg5:=qh (rng_below hrg.out hB5);replace hB5:=qh hB5;replace hrow:=qh hrow;have hiN2:IntKind.i64.wrap (((nd2:Nat):Int)+((sN:Nat):Int)+((pN:Nat):Int))=((nd2:Nat):Int)+((sN:Nat):Int)+((pN:Nat):Int):=IntWalk.i64_in _ (by omega);have hiL2:IntKind.i64.wrap (1+((sL:Nat):Int)+((pL:Nat):Int))=1+((sL:Nat):Int)+((pL:Nat):Int):=IntWalk.i64_in _ (by omega);have hiP2:IntKind.i64.wrap (((sP:Nat):Int)+((pP:Nat):Int))=((sP:Nat):Int)+((pP:Nat):Int):=IntWalk.i64_in _ (by omega);have hwr:IntKind.i64.wrap (((r:Nat):Int)+1)=((r+1:Nat):Int):=by rw [show ((r:Nat):Int)+1=((r+1:Nat):Int) by omega];exact IntWalk.i64_in _ (by omega)
       have hgN:nd2+((D++f.bn.pairs.take (r+1)).map fN).sum=nd2+sN+pN:=by rw [hE2,sum_snoc,← hsN1,← hpN];omega
       have hgL:1+((D++f.bn.pairs.take (r+1)).map fL).sum=1+sL+pL:=by rw [hE2,sum_snoc,← hsL1,← hpL];omega
       have hgP:((D++f.bn.pairs.take (r+1)).map fP).sum=sP+pP:=by rw [hE2,sum_snoc,← hsP1,← hpP]
       replace hB9:=qh hB9;replace hpr:=qh hpr;replace hs:=qh hs;replace htk:=qh htk;replace hE:=qh hE;replace hE2:=qh hE2;replace hp:=qh hp;replace hpm:=qh hpm;replace hsN:=qh hsN;replace hsL:=qh hsL;replace hsP:=qh hsP;replace hps:=qh hps;replace hRc:=qh hRc;replace hPp:=qh hPp;replace hb1c:=qh hb1c;replace hb2c:=qh hb2c;replace hb3c:=qh hb3c;replace hsN1:=qh hsN1;replace hsL1:=qh hsL1;replace hsP1:=qh hsP1;replace hpN:=qh hpN;replace hpL:=qh hpL;replace hpP:=qh hpP;replace hgN:=qh hgN;replace hgL:=qh hgL;replace hgP:=qh hgP
       go_wp2_with (refine wpList_load_mid rfl 95 (.tmp 81) rfl q 2 (by rfl) cs _ hrg5.out Tryz.underlying95 rfl (by rw [hll.out];kernel_rfl) ?_)
       refine (hAt1.out _).mono ?_;rintro z5 w5 ⟨rfl,hb⟩;have hB6:=qh (hB5.out.trans (hb.mono hB5.out.size));have hr6:=qh (hrow.out.below hb);clear hb hrg5 hql5;have hA7:=qh ((Below.refl w5.heap.size w5).alloc (Nat.le_refl _) (.cells #[.int .u64 ((s.m.s:Nat):Int),.int .u8 ((s.m.c:Nat):Int),.string s.rest,.string s.val,.bool s.deep,.int .i64 s.link.1,.int .u64 s.link.2] 92));have hB7:=qh (hB6.out.trans (hA7.out.mono hB6.out.size));have hr7:=qh (hr6.out.below hA7.out);obtain ⟨dp,hdp⟩:∃ b,b=s.deep:=⟨_,rfl⟩;rw [← hdp] at hA7 hB7 hr7 hRc hPp ⊢;replace hdp:=qh hdp
       cases dp
       ·skip
        obtain ⟨q1,q2,q3⟩:=hPp.out rfl
        skip
        have hw6:IntKind.i64.wrap (((sP:Nat):Int)+1)=((sP:Nat):Int)+1:=by have:=hiP2;rw [q3] at this;exact this
        go_wp2_with fail;go_roundg (fn - r)
        case rel =>
         refine ⟨r+1,by omega,by omega,congrArg _ (by omega),?_,?_,?_,hr7.out,hB7.out⟩
         ·rw [hgN.out,q1,Nat.add_zero];first | rfl | exact congrArg _ (by omega)
         ·rw [hgL.out,q2,Nat.add_zero];first | rfl | exact congrArg _ (by omega)
         ·rw [hgP.out,q3];first | rfl | exact congrArg _ (by omega)
        case measure=>omega
       ·skip
        go_wp2_with fail;refine (hRc.out _ trivial hB7.out).mono ?_;rintro z8 w8 ⟨rfl,hb⟩;have hB8:=qh (hB7.out.trans (hb.mono hB7.out.size));have hr8:=qh (hr7.out.below hb);clear hb;go_wp2_with fail;go_roundg (fn - r)
        case rel =>
         refine ⟨r+1,by omega,by omega,congrArg _ (by omega),?_,?_,?_,hr8.out,hB8.out⟩
         ·rw [hgN.out];first | rfl | exact congrArg _ (by omega)
         ·rw [hgL.out];first | rfl | exact congrArg _ (by omega)
         ·rw [hgP.out];first | rfl | exact congrArg _ (by omega)
        case measure=>omega
      ·skip
       obtain rfl:r=fn:=by omega
       rw [List.take_of_length_le (by rw [hPl2.out];exact Nat.le_refl _),← hct.out];replace hB5:=qh hB5;replace hrow:=qh hrow;go_wp2_with fail;go_roundg (N - i)
       case rel=>exact ⟨i+1,by omega,by omega,congrArg _ (by omega),rfl,rfl,rfl,hrow.out,hB5.out⟩
       case measure=>omega
    ·skip
     obtain rfl:i=N:=by omega
     rw [List.take_of_length_le (by rw [hN.out];exact Nat.le_refl _)];have hBh:=qh hB;clear hB;go_wp2_with fail;exact bodyPost_ret (v:=.tuple #[.int .i64 ((nd2+((cont R0).map fN).sum:Nat):Int),.int .i64 ((1+((cont R0).map fL).sum:Nat):Int),.int .i64 ((((cont R0).map fP).sum:Nat):Int),.bool true]) (by simp [results,Tryz.results60,go_sem]) rfl ⟨by rw [hdf0.out],hBh.out⟩
  ·skip
   have hjd:decide (j+1=0)=false:=by simp
   rw [hjd] at y1;obtain ⟨S,hS⟩:∃ S,Ls[j]?=some S:=⟨_,List.getElem?_eq_getElem (by have:=(List.getElem?_eq_some_iff.1 hR.out).1;omega)⟩;have hr3b:=hr3.out;rw [hN.out] at hr3b;have hK1:=qh (hKd.out w3 j S R _ rc hB3.out hS hR.out hr3b);clear hr3b;rw [← hN.out] at hK1;replace hS:=qh hS;go_wp2_with fail;refine hK1.out.mono ?_;rintro z4 w4 ⟨a4,c4,rfl,hr4,hb⟩;rw [List.length_map] at hr4 ⊢;have hB4:=qh (hB3.out.trans (hb.mono hB3.out.size));replace hr4:=qh (hr4.rebase fun b hb=>Nat.le_trans hB3.out.size (hr4.lt b hb).1);clear hb;go_wp2_with fail;go_roundg (j+1)
   case rel =>
    exact ⟨j,S,a4,c4,rfl,hS.out,rfl,rfl,congrArg _ (congrArg _ hnd2.out),hr4.out,hB4.out⟩
   case measure=>omega
end Go.Proofs.YtbdealmkmpnpoaaGreat.M
