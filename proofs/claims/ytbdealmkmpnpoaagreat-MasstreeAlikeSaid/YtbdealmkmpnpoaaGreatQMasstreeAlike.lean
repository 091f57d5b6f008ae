import Derived.Laws.MakeOwn
import Derived.Lib.SliceRun
import Derived.Deep.RegionLaw
import Derived.Test.YtbdealmkmpnpoaaGreatRows
import Derived.WalkKit
import Derived.ProofKit
import Derived.OpenShut
import Derived.ShutString
import Derived.ChangeOld
import Derived.Below
import Derived.Test.YtbdealmkmpnpoaaGreatQ01
import Derived.Test.YtbdealmkmpnpoaaGreatQ02
import Derived.Test.YtbdealmkmpnpoaaGreatQ03
import Derived.Test.YtbdealmkmpnpoaaGreatQ04
import Derived.Test.YtbdealmkmpnpoaaGreatQ05
import Derived.Test.YtbdealmkmpnpoaaGreatQ06
import Derived.Test.YtbdealmkmpnpoaaGreatQ07
import Derived.Test.YtbdealmkmpnpoaaGreatQ08
import Derived.Test.YtbdealmkmpnpoaaGreatQ09
import Derived.Test.YtbdealmkmpnpoaaGreatQ10
import Derived.Test.YtbdealmkmpnpoaaGreatQ11
import Derived.Test.YtbdealmkmpnpoaaGreatQ12
import Derived.Test.YtbdealmkmpnpoaaGreatQ13
import Derived.Test.YtbdealmkmpnpoaaGreatQ14
set_option linter.all false
namespace Go.Proofs.YtbdealmkmpnpoaaGreat.M
open Go.RowKit
def acel15 (x:A10):List Value:=[.int .i64 x.1,.string x.2.1,.string x.2.2.1,.bool x.2.2.2]
theorem acel15_len (x:A10):(acel15 x).length=4:=rfl
theorem acel15_one (x:A10):∀ y∈acel15 x,y.oneCell'=true:=by intro y hy;simp [acel15] at hy;rcases hy with rfl | rfl | rfl | rfl <;> rfl
theorem act15_info:∃ i0:TypeInfo,Tryz.prog.info? 51=some i0∧i0.zero=some (.agg #[.int .i64 0,.string ⟨#[]⟩,.string ⟨#[]⟩,.bool false])∧i0.size=4∧i0.bytes=48:=info_parts (show (Tryz.prog.info? 51).map (fun i=>(i.zero,i.size,i.bytes))=some (some (.agg #[.int .i64 0,.string ⟨#[]⟩,.string ⟨#[]⟩,.bool false]),4,48) by kernel_rfl)
theorem acts_of_row {w:World} {base:Nat} {s:Option Addr} {c:Nat} {L:List A10} (h:Row base 51 4 acel15 w (.slice s L.length c) L):Acts w s L:=fun k x hx=>by
 obtain ⟨b,cap,ev,_,_,hb,_,_,_,hat⟩:=h.at hx
 injection ev with ev _ _
 exact ⟨b,0,ev,hb,⟨by simpa using hat 0 _ rfl,by simpa using hat 1 _ rfl,by simpa using hat 2 _ rfl,by simpa using hat 3 _ rfl⟩⟩
set_option maxRecDepth 100000 in
set_option maxHeartbeats 4000000 in
theorem mtAlikeLaw_walk (s : Option Addr) (len cap : Nat) (rows : List (List Value)) (key : ByteArray) (after : Bool) (w : World) (hr : IsFlat [.inl .i64, .inr false, .inr false, .inr true] w s len rows) (hk : key.size ≤ maxLen) :
    Calls Tryz.prog 5 #[.slice s len cap,.string key,.bool after] w fun e w'=>e=.returned (.bool true)∧Below w.heap.size w w':=by
 have hlen:len≤maxLen:=by
  rcases hr with ⟨h0,_⟩ | ⟨_,_,_,h1,_⟩
  ·rw [h0];exact Nat.zero_le _
  ·exact h1
 obtain ⟨L,rfl,hL,hsz⟩:=acts_of_flat hr
 clear hr
 have hAw:=qh (awake15_any w)
 have hGr:=qh fun W (hW:Below w.heap.size w W)=>great15_any s cap L W (hL.below hW) hsz hlen
 have hMa:=qh fun W (hW:Below w.heap.size w W) h300 hkb=>made15_any s cap L W (hL.below hW) h300 hkb (fun _=>True) (fun _ _ _=>trivial)
 unfold maxLen at hk hlen
 clear hL
 go_enter Tryz.func5,Tryz.ntmps5
 go_wp2_with fail
 refine hAw.out.mono ?_
 clear hAw
 rintro e w1 ⟨rfl,hb1⟩
 go_wp2_with fail
 refine (hGr.out w1 hb1).mono ?_
 clear hGr
 rintro e w2 ⟨rfl | ⟨rfl,h300,hkb⟩,hb2⟩
 ·replace hb2:=qh (hb1.trans (hb2.mono hb1.size))
  go_wp2_with fail;go_ret;exact ⟨rfl,hb2.out⟩
 have hb12:=hb1.trans (hb2.mono hb1.size)
 by_cases h2000:2000 < key.size
 ·have hd:decide ((2000:Int) < (key.size:Int))=true:=by rw [decide_eq_true_iff];omega
  replace hb12:=qh hb12;go_wp2_with fail;go_ret;exact ⟨by simp,hb12.out⟩
 have hd:decide ((2000:Int) < (key.size:Int))=false:=by rw [decide_eq_false_iff_not];omega
 have hMd:=qh (hMa.out w2 hb12 h300 hkb)
 replace hb12:=qh hb12
 clear hMa hb1 hb2
 go_wp2_with fail
 refine hMd.out.mono ?_
 clear hMd
 rintro e w3 ⟨p,t,rfl,hT,hCl⟩
 have hC100:(doneC L).length≤100000:=by omega
 have hAll:=qh (hT.all (by omega) (by omega) hC100)
 have hks:Hid (ksum (doneC L)≤40000):=qh (by have:=ksum_done L [];have e:ksum []=0:=rfl;unfold doneC;omega)
 have hsrt:=qh hT.sorted
 have hb3:=qh (hb12.out.trans (hT.bel.mono hb12.out.size))
 have hT3:=qh hT
 obtain ⟨C,hC⟩:∃ C,C=doneC L:=⟨_,rfl⟩
 rw [← hC] at hCl hAll hsrt hT3 hC100 hks
 clear hT hC hb12
 go_wp2_with fail
 refine hAll.out.mono ?_
 clear hAll
 rintro e w4 ⟨aa,ac,rfl,hra,hb4⟩
 have hT4:=qh (hT3.out.below hb4)
 have hb34:=qh (hb3.out.trans (hb4.mono hb3.out.size))
 have hpc:=qh fun W (hW:Below w4.heap.size w4 W) i x hx=>pair_cells (hra.at'.below hW) (i:=i) (x:=x) hx
 have hra':=qh hra.at'
 clear hra hT3 hb3 hb4
 obtain ⟨n,hn⟩:∃ n,n=C.length:=⟨_,rfl⟩
 rw [← hn] at hCl hC100 ⊢
 replace hn:=qh hn
 obtain ⟨i0,hi0,hzA,hzB,hzC⟩:=act15_info
 have hw1:IntKind.i64.wrap ((n:Int) - 1)=(n:Int) - 1:=IntWalk.i64_in _ (by omega)
 go_wp2_with fail
 go_loopg [11,12] n (fun gk v11 v12 wr=>∃ (k:Nat),gk=k∧k≤n∧v12=.int .i64 ((k:Int) - 1)∧Row w4.heap.size 51 4 acel15 wr v11 ((C.drop k).reverse.map toAct)∧Below w4.heap.size w4 wr)
 case atStart=>exact ⟨n,rfl,Nat.le_refl _,rfl,by rw [hn.out,List.drop_length];exact Row.nil acel15_len acel15_one _ _ _,Below.refl _ _⟩
 case round =>
  obtain ⟨k,hgk,hkn,rfl,hrow,hB⟩:=hrel;subst hgk;obtain ⟨va,vc,rfl⟩:=hrow.shape
  cases gk with
  | zero =>
   have hCr:doneC (C.reverse.map toAct)=C:=doneC_rev hsrt.out;have hRl:(C.reverse.map toAct).length=n:=by have:=hn.out;simp;omega
   rw [List.drop_zero] at hrow ⊢;have hMb:=qh (made15_any va vc _ wr (acts_of_row hrow) (by omega) (by rw [kb_rev];exact hks.out) (fun _=>True) (fun _ _ _=>trivial));unfold MadeEnd at hMb;rw [hCr] at hMb;have hTa:=qh (hT4.out.below hB);have hrb:=qh (hra'.out.below hB);have hb4:=qh (hb34.out.trans (hB.mono hb34.out.size));obtain ⟨MM,hM⟩:∃ MM,MM=C.reverse.map toAct:=⟨_,rfl⟩;rw [← hM] at hMb hRl ⊢;rw [show ((0:Nat):Int) - 1 = -1 by omega];replace hRl:=qh hRl;clear hrow hT4 hra' hb34 hB hpc hM hCr;go_wp2_with fail;refine hMb.out.mono ?_;clear hMb;rintro e w6 ⟨p2,t2,rfl,hTb,_⟩;have hTa6:=qh (hTa.out.below hTb.bel);have hra6:=qh (hrb.out.below hTb.bel);have hb6:=qh (hb4.out.trans (hTb.bel.mono hb4.out.size));replace hTb:=qh hTb;clear hTa hrb hb4;have hgA:=qh fun W (hW:Below w6.heap.size w6 W)=>(hTa6.out.below hW).get (key:=key) (by omega) (by omega) (by omega)
   have hgB:=qh fun W (hW:Below w6.heap.size w6 W)=>(hTb.out.below hW).get (key:=key) (by omega) (by omega) (by omega)
   have hnA:=qh fun W (hW:Below w6.heap.size w6 W)=>(hTa6.out.below hW).next (key:=key) (by omega) (by omega) (by omega) after
   have hnB:=qh fun W (hW:Below w6.heap.size w6 W)=>(hTb.out.below hW).next (key:=key) (by omega) (by omega) (by omega) after
   have hlA:=qh fun W (hW:Below w6.heap.size w6 W)=>(hTa6.out.below hW).len
   have hlB:=qh fun W (hW:Below w6.heap.size w6 W)=>(hTb.out.below hW).len
   have hcA:=qh fun W (hW:Below w6.heap.size w6 W)=>(hTa6.out.below hW).check (by omega) (by omega) (by have:=hn.out;omega)
   have hcB:=qh fun W (hW:Below w6.heap.size w6 W)=>(hTb.out.below hW).check (by omega) (by omega) (by have:=hn.out;omega)
   have haB:=qh fun W (hW:Below w6.heap.size w6 W)=>(hTb.out.below hW).all (by omega) (by omega) (by have:=hn.out;omega)
   have hpr:=qh fun W (hW:Below w6.heap.size w6 W) a c (h2:At W 2 pcel a c C)=>pairs15_any aa a ac c C W (hra6.out.below hW) h2 (by have:=hn.out;omega)
   unfold AllEnd at haB;rw [← hn.out] at hlA hlB hpr haB;obtain ⟨gs,hgs⟩:∃ gs,gs=(M.cget C key).getD s0:=⟨_,rfl⟩;obtain ⟨gb,hgb⟩:∃ gb,gb=(M.cget C key).isSome:=⟨_,rfl⟩;rw [← hgs,← hgb] at hgA hgB;obtain ⟨nk,hnk⟩:∃ nk,nk=fK (M.cnext C key after):=⟨_,rfl⟩;obtain ⟨nv,hnv⟩:∃ nv,nv=fX (M.cnext C key after):=⟨_,rfl⟩;obtain ⟨nb,hnb⟩:∃ nb,nb=(M.cnext C key after).isSome:=⟨_,rfl⟩;rw [← hnk,← hnv,← hnb] at hnA hnB;clear hgs hgb hnk hnv hnb;go_wp2_with fail;refine (hgA.out _ (Below.refl _ _)).mono ?_;rintro e w7 ⟨rfl,hb7⟩;go_wp2_with fail;refine (hgB.out _ hb7).mono ?_;rintro e w8 ⟨rfl,hb8⟩;replace hb8:=hb7.trans (hb8.mono hb7.size);clear hb7;go_wp2_with fail;refine (hnA.out _ hb8).mono ?_;rintro e w9 ⟨rfl,hb9⟩;replace hb9:=hb8.trans (hb9.mono hb8.size);clear hb8;go_wp2_with fail;refine (hnB.out _ hb9).mono ?_;rintro e w10 ⟨rfl,hb10⟩;replace hb10:=hb9.trans (hb10.mono hb9.size);clear hb9;go_wp2_with fail;refine (haB.out _ hb10).mono ?_;rintro e w11 ⟨a2,c2,rfl,hr2,hb11⟩;replace hb11:=hb10.trans (hb11.mono hb10.size);rw [hn.out] at hr2;have hp2:=qh (hpr.out w11 hb11 a2 c2 hr2.at');clear hb10 hr2;replace hb11:=qh hb11;go_wp2_with fail;refine hp2.out.mono ?_;clear hp2;rintro e w12 ⟨rfl,hb12⟩;have hb13:=qh (hb11.out.trans (hb12.mono hb11.out.size));clear hb12 hb11;go_wp2_with fail;refine (hlA.out _ hb13.out).mono ?_;rintro e w13 ⟨rfl,rfl⟩;go_wp2_with fail;refine (hlB.out _ hb13.out).mono ?_
   rintro e w13 ⟨rfl,rfl⟩;go_wp2_with fail;refine (hlA.out _ hb13.out).mono ?_;rintro e w13 ⟨rfl,rfl⟩;go_wp2_with fail;refine (hcA.out _ hb13.out).mono ?_;rintro e w14 ⟨rfl,hb14⟩;have hb15:=qh (hb13.out.trans (hb14.mono hb13.out.size));clear hb14;go_wp2_with fail;refine (hcB.out _ hb15.out).mono ?_;rintro e w16 ⟨rfl,hb16⟩;have hb17:=qh (hb6.out.trans ((hb15.out.trans (hb16.mono hb15.out.size)).mono hb6.out.size));clear hb16;go_wp2_with fail;go_ret;exact ⟨by simp,hb17.out⟩
  | succ k =>
   obtain ⟨x,hx⟩:∃ x,C[k]?=some x:=⟨_,List.getElem?_eq_getElem (by have:=hn.out;omega)⟩;obtain ⟨b,o,rfl,hbw,hac,hac2,x0,x1⟩:=hpc.out wr hB k x hx
   have hdr:Hid ((C.drop k).reverse.map toAct=(C.drop (k+1)).reverse.map toAct++[toAct x]):=qh (by
    obtain ⟨h1,h2⟩:=List.getElem?_eq_some_iff.1 hx;rw [List.drop_eq_getElem_cons h1,h2]
    simp)
   have hll:((C.drop (k+1)).reverse.map toAct).length+1≤300:=by have:=hn.out;simp;omega
   rw [show ((k+1:Nat):Int) - 1=(k:Int) by omega];have hA1:Below wr.drew.heap.size wr.drew (wr.drew.alloc (.cells #[.int .i64 0,.string x.1,.string x.2,.bool false] 51)):=(Below.refl _ _).alloc (Nat.le_refl _) _;have hB5:=qh (hB.drew.trans (hA1.mono hB.drew.size));have hR5:=qh ((hrow.below (Below.refl wr.heap.size wr).drew).below hA1);have hS5:=qh (SrcOf.one wr.drew 51 [.int .i64 0,.string x.1,.string x.2,.bool false] (by intro y hy;simp at hy;rcases hy with rfl | rfl | rfl | rfl <;> rfl));have hbs5:=qh hB5.out.size;obtain ⟨LL,hLL⟩:∃ LL,LL=(C.drop (k+1)).reverse.map toAct:=⟨_,rfl⟩;rw [← hLL] at hR5 hdr hll ⊢;have hlen5:LL.length+1≤maxLen:=by unfold maxLen;omega
   have hby5:(LL.length+1)*48≤140737488355328:=by omega
   replace hlen5:=qh hlen5;replace hby5:=qh hby5;replace hll:=qh hll;have hA2:(k:Int) < (n:Int):=by omega
   have hA3:(0:Int)≤(k:Int):=by omega
   have hw2:IntKind.i64.wrap ((k:Int) - 1)=(k:Int) - 1:=IntWalk.i64_in _ (by omega);have hbw2:=block_lt_of_cell x0;obtain ⟨x1s,x2s⟩:=x;simp only at x0 x1 hR5 hS5 hB5 hbs5 hdr;clear hrow hx hA1 hLL;go_upto_region 13 with fail;go_region_law (refine step_append_row (f:=acel15) (M:=[toAct (x1s,x2s)]) _ rfl (.tmp 55) (.tmp 67) 48 rfl w4.heap.size 51 i0 (.agg #[.int .i64 0,.string ⟨#[]⟩,.string ⟨#[]⟩,.bool false]) 4 48 Tryz.underlying48 hi0 hzA hzB hzC rfl (by decide) (.slice va LL.length vc) LL (by simp [Act.eval]) hR5.out (.slice (some ⟨wr.drew.heap.size,0,none⟩) 1 1) (by simp [Act.eval]) hS5.out hlen5.out hby5.out hbs5.out ?_;intro a6 c6 w6 hrow6 hu6 hat6;replace hrow6:=qh hrow6;replace hu6:=qh hu6;replace hat6:=qh hat6)
   all_goals
    go_wp2_with fail;go_roundg k
    case rel =>
     refine ⟨k,rfl,by omega,rfl,?_,hB5.out.trans (hu6.out.below hB5.out.size (fun b hb=>(hR5.out.lt b (by simpa using hb)).1))⟩;rw [hdr.out];simpa using hrow6.out
    case measure=>omega
end Go.Proofs.YtbdealmkmpnpoaaGreat.M
namespace Go.Proofs.YtbdealmkmpnpoaaGreat.masstreeAlike
open Go.ChangeShapes Go.WideShapes Go.ChangeAt Go.RowKit
open Go.ChangeMaps (open_string shut_string)
set_option linter.unusedVariables false
theorem own:ownKnob Tryz.prog.godebug=none:=by kernel_rfl
theorem laidOut:laidOutB Tryz.prog=true:=by kernel_rfl
set_option maxRecDepth 100000 in
theorem lifted (os : Os) (started : os.Started) (H : Type) (enc : TypeId × Value → H) :
    ReturnsInHanded {} Tryz.checked os 5 .any (Rows.masstreeAlikeSpec.pre6 enc Tryz.prog Tryz.f5 Rows.masstreeAlikeRow.domain false) (Rows.masstreeAlikeSpec.post enc Tryz.prog Tryz.f5 false true false false):=by
 refine returnsInHanded_of_change (C:=Tryz.checked) own started (by kernel_rfl) Tryz.func5
  (ChangeSpec.witness6 (enc:=enc) (C:=Tryz.checked) false ⟨#[],#[.slice none 0 0,.string ByteArray.empty,.bool false],[]⟩ 8 (by kernel_rfl) (by kernel_rfl) (by kernel_rfl) (by kernel_rfl)) ?_
 intro W base args ds gs before hval0 hW hcnd _
 have hval:∀ (j:Nat) t v,Tryz.f5.params[j]?=some t→args[j]?=some v→Value.okWide Tryz.prog W .any base t v:=hval0
 have hW':=hW
 obtain ⟨p,q,hA0,hV,rfl,hfz,hnd⟩:=hW
 have hA:DataW.TrodAll enc Tryz.prog W 0 (fun _=>true) true Tryz.f5.params.toList args.toList ds p:=hA0
 rw [Tryz.params5] at hA hval
 obtain ⟨v0,vs0,d0,ds0,p0,q0,hargs,rfl,rfl,h0,r0⟩:=trodAll_cons hA
 obtain ⟨v1,vs1,d1,ds1,p1,q1,rfl,rfl,rfl,h1,r1⟩:=trodAll_cons r0
 obtain ⟨v2,vs2,d2,ds2,p2,q2,rfl,rfl,rfl,h2,r2⟩:=trodAll_cons r1
 obtain ⟨rfl,rfl,rfl⟩:=trodAll_nil r2
 obtain rfl:args=#[v0,v1,v2]:=by cases args;simp_all
 obtain ⟨rfl,rfl⟩:=trodVars_none hV
 obtain ⟨a0,len0,cap0,rfl⟩:=okWide_slice Tryz.underlying48 (hval 0 48 v0 rfl rfl)
 have k0:=h0
 have lt0:∀ x∈p0,x.block < W.heap.size:=by obtain ⟨m,hm⟩:=k0;exact DataW.trod_lt m _ _ _ hm
 obtain ⟨z0,w0⟩:∃ zs,IsFlat [.inl .i64,.inr false,.inr false,.inr true] W a0 len0 zs:=by
  obtain ⟨fuel,hf⟩:=h0;exact isFlat_of (n:=9) Tryz.underlying48 (by kernel_rfl) (by kernel_rfl) (by decide) hf
 obtain ⟨a1,rfl,rfl,rfl,w1⟩:=open_string Tryz.underlying9 (hval 1 9 v1 rfl rfl) h1
 obtain ⟨a2,rfl,rfl,rfl⟩:=open_bool Tryz.underlying4 (hval 2 4 v2 rfl rfl) h2
 clear hA0 hval0
 refine (M.mtAlikeLaw_walk a0 len0 cap0 z0 a1 a2 W w0 w1).mono fun e W' ⟨he,bel⟩=>?_
 subst he
 exact ⟨_,rfl,_,_,_,[],_,[],hW',trodAll_mk1 (shut_bool Tryz.underlying4 _),(trodAll_cons_mk (Below.trod laidOut (by kernel_rfl) (of_decide_eq_true (by kernel_rfl)) k0 bel lt0) (trodAll_cons_mk (shut_string Tryz.underlying9 w1) (trodAll_cons_mk (shut_bool Tryz.underlying4 _) trodAll_mk0))),rfl,bel.frame _,fun h=>by cases h⟩
theorem over:Rows.masstreeAlikeRow.holds Tryz.pinned (OpenSpec.ofChange Rows.masstreeAlikeSpec) :=
 OpenClaim.holds_of_wide 5 Tryz.f5 rfl rfl rfl rfl rfl rfl rfl ⟨rfl,rfl,rfl,rfl,rfl⟩ rfl rfl rfl rfl rfl (by kernel_rfl) Tryz.func5 (by kernel_rfl)
  (of_decide_eq_true (by kernel_rfl)) (by unfold Func.isWrapper;first | (rw [if_pos (by decide +kernel)];kernel_rfl) | (rw [if_neg (by decide +kernel)];exact ⟨rfl,rfl⟩))
  (fun os started H enc _=>lifted os started H enc)
theorem proved:Rows.MasstreeAlikeSaid:=over
#print axioms proved
end Go.Proofs.YtbdealmkmpnpoaaGreat.masstreeAlike
