import Derived.Lib.SliceRun
import Derived.Deep.RegionLaw
import Derived.Laws.MakeOwn
import Derived.Test.YtbdealmkmpnpoaaGreatQk01
import Derived.Test.YtbdealmkmpnpoaaGreatQk02
import Derived.Test.YtbdealmkmpnpoaaGreatQk03
import Derived.Test.YtbdealmkmpnpoaaGreatQk04
import Derived.Test.YtbdealmkmpnpoaaGreatQk05
import Derived.Test.YtbdealmkmpnpoaaGreatQk06
import Derived.Test.YtbdealmkmpnpoaaGreatQk07
set_option linter.all false
namespace Go.Proofs.YtbdealmkmpnpoaaGreat.M
open Go.RowKit
abbrev zSlV:Value:=.agg #[.int .u64 0,.int .u8 0,.string ⟨#[]⟩,.string ⟨#[]⟩,.bool false,.int .i64 0,.int .u64 0]
def oSl (o:Option Sl):Sl:=o.getD zeroSl
def EntE {σ:Type} (V:Vs σ) (St:σ→World→Prop) (rho:σ→Nat→Nat) (s:σ) (pre:Byt) (m:Mk) (bh:Bool) (N:Nat) (w:World) (e:Ending) (w':World):Prop :=
 ∃ s',To V s s'∧St s' w'∧Kp (rho s) (rho s') w w'∧(V.free=true∨V.cnt s'≤N) ∧
  ((V.gone s'=true∧e=.returned (.tuple #[zSlV,.bool false,.bool true])) ∨
   (V.gone s'=false∧∃ o,NxOK V pre (mT m) bh s' o∧e=.returned (.tuple #[slV (oSl o),.bool o.isSome,.bool false])))
structure EB (w:World) (FB RB LB:Nat) (m:Mk) (bh:Bool) (cl:List Value) (W:World):Prop where
 fb:W.heap[FB]?=some (.cells #[.int .u64 ((m.s:Nat):Int),.int .u8 ((m.c:Nat):Int),.bool bh] 179)
 rb:W.heap[RB]?=some (.cells #[.int .u64 0,.int .u8 0,.string ⟨#[]⟩,.string ⟨#[]⟩,.bool false,.int .i64 0,.int .u64 0] 92)
 lb:W.heap[LB]?=some (.cells cl.toArray 95)
 ge:w.heap.size≤FB∧w.heap.size≤RB∧w.heap.size≤LB
section
variable {w W W':World} {FB RB LB:Nat} {m:Mk} {bh:Bool} {cl cl':List Value} {ρ ρ':Nat→Nat}
theorem EB.below (d:EB w FB RB LB m bh cl W) (hb:Below W.heap.size W W'):EB w FB RB LB m bh cl W':=⟨Below.heap' hb d.fb,Below.heap' hb d.rb,Below.heap' hb d.lb,d.ge⟩
theorem EB.kp (d:EB w FB RB LB m bh cl W) (k:Kp ρ ρ' W W') (h0:ρ FB=0∧ρ RB=0∧ρ LB=0):EB w FB RB LB m bh cl W'∧(ρ' FB=0∧ρ' RB=0∧ρ' LB=0):=by
 obtain ⟨a1,a2⟩:=k.heap d.fb h0.1
 obtain ⟨b1,b2⟩:=k.heap d.rb h0.2.1
 obtain ⟨c1,c2⟩:=k.heap d.lb h0.2.2
 exact ⟨⟨a1,b1,c1,d.ge⟩,a2,b2,c2⟩
theorem EB.leaf (d:EB w FB RB LB m bh cl W) {NB:Nat} (hn:NB≠FB∧NB≠RB) (hu:Upd [NB,LB] W W') (hl:W'.heap[LB]?=some (.cells cl'.toArray 95)):EB w FB RB LB m bh cl' W':=by
 have hf:FB≠LB:=fun e=>by
  have:=d.fb;rw [e,d.lb] at this;injection this with this;injection this with _ h2
  revert h2
  decide
 have hr:RB≠LB:=fun e=>by
  have:=d.rb;rw [e,d.lb] at this;injection this with this;injection this with _ h2
  revert h2
  decide
 exact ⟨hu.heap d.fb (by simp;exact ⟨fun e=>hn.1 e.symm,hf⟩),hu.heap d.rb (by simp;exact ⟨fun e=>hn.2 e.symm,hr⟩),hl,d.ge⟩
end
structure EnI {σ:Type} (w:World) (V:Vs σ) (St:σ→World→Prop) (rho:σ→Nat→Nat) (s:σ) (pre:Byt) (m:Mk) (bh:Bool) (N:Nat) (FB RB LB:Nat) (s1:σ) (f:LF) (h:Hd) (lo:Str) (A B:Lev Sl) (W:World):Prop where
 tos:To V s s1
 st:St s1 W
 gone:V.gone s1=false
 nx:NxP V pre (mT m) bh s1 h lo f.bn A B
 lf:LFOK f
 kp:Kp (rho s) (rho s1) w W
 eb:EB w FB RB LB m bh (lfc f) W
 r0:rho s1 FB=0∧rho s1 RB=0∧rho s1 LB=0
 bd:V.free=true∨V.cnt s1+msr V s1 0 B≤N+1
structure EnG {σ:Type} (w:World) (V:Vs σ) (St:σ→World→Prop) (rho:σ→Nat→Nat) (s:σ) (m:Mk) (bh:Bool) (N:Nat) (FB RB LB:Nat) (s1:σ) (W:World):Prop where
 tos:To V s s1
 st:St s1 W
 gone:V.gone s1=true
 kp:Kp (rho s) (rho s1) w W
 eb:EB w FB RB LB m bh zlc W
 r0:rho s1 FB=0∧rho s1 RB=0∧rho s1 LB=0
 bd:V.free=true∨V.cnt s1≤N
def EnR {σ:Type} (w:World) (V:Vs σ) (St:σ→World→Prop) (rho:σ→Nat→Nat) (s:σ) (pre:Byt) (m:Mk) (bh:Bool) (N:Nat) (FB RB LB:Nat) (ok:Bool) (k:Nat) (W:World):Prop :=
 (ok=true∧∃ s1 f h lo A B,k=msr V s1 0 B+1∧EnI w V St rho s pre m bh N FB RB LB s1 f h lo A B W)∨(ok=false∧k=0∧∃ s1,EnG w V St rho s m bh N FB RB LB s1 W)
theorem leaf_box (w2:World) {cs:List Value} (hl:cs.length=111):((w2.alloc (.cells Tryz.zeroCells95 95)).setCells w2.heap.size 0 cs).heap[w2.heap.size]?=some (.cells cs.toArray 95)∧Below w2.heap.size w2 ((w2.alloc (.cells Tryz.zeroCells95 95)).setCells w2.heap.size 0 cs)∧(w2.alloc (.cells Tryz.zeroCells95 95)).there w2.heap.size 0 cs.toArray.size:=by
 have hb:=heap_alloc_new w2 (.cells Tryz.zeroCells95 95)
 have hB:=(Below.refl w2.heap.size w2).alloc (Nat.le_refl _) (.cells Tryz.zeroCells95 95)
 exact ⟨hb_wholeA hb (by rw [zero_leaf,hl]),hB.trans ((hb_upd _ w2.heap.size 0 cs).below hB.size (by simp)),hb_thereA hb (by rw [zero_leaf,List.size_toArray,hl];omega)⟩
theorem place_cut {f:LF} (hf:LFOK f) (k:Str) (bh:Bool):place k bh f.bn.keys=cut k f.bn.keys+(if (hasK k f.bn.keys && bh)=true then 1 else 0):=by
 unfold place
 cases bh with
 | false=>simp
 | true =>
  rw [if_pos rfl,cutE_eq hf.rises];simp
set_option maxRecDepth 100000 in
set_option maxHeartbeats 2000000 in
theorem Rdr.entry {σ : Type} {w0 w : World} {V : Vs σ} {t a : Nat} {vis : Value} {St : σ → World → Prop} {rho : σ → Nat → Nat} {KM : Nat} {s : σ} (R : Rdr w0 V t a vis St rho KM) {pre : Byt} {j : Nat} {h : Hd} {n : BN Sl} {A B : Lev Sl} {m : Mk} (hm : MkOK m) (bh : Bool) (hSt : St s w) (hp : V.gone s = false → Pos V s pre j h s0 n A B)
    {N:Nat} (hN:V.free=true∨N≤KM) (hbd:V.free=true∨V.cnt s+msr V s j B≤N):Calls Tryz.prog 103 #[.pointer (some ⟨t,0,none⟩),hV h,.agg #[.int .u64 ((m.s:Nat):Int),.int .u8 ((m.c:Nat):Int),.bool bh],vis] w (EntE V St rho s pre m bh N w):=by
 have htl:t < w.heap.size:=block_lt_of_cell (R.tree s w hSt)
 obtain ⟨b1,b2,b3⟩:=heap_three w (.cells #[.int .i64 h.1,.int .u64 h.2] 71) (.cells #[.int .u64 ((m.s:Nat):Int),.int .u8 ((m.c:Nat):Int),.bool bh] 179) (.cells #[.int .u64 0,.int .u8 0,.string ⟨#[]⟩,.string ⟨#[]⟩,.bool false,.int .i64 0,.int .u64 0] 92)
 have hB:=below_three w (.cells #[.int .i64 h.1,.int .u64 h.2] 71) (.cells #[.int .u64 ((m.s:Nat):Int),.int .u8 ((m.c:Nat):Int),.bool bh] 179) (.cells #[.int .u64 0,.int .u8 0,.string ⟨#[]⟩,.string ⟨#[]⟩,.bool false,.int .i64 0,.int .u64 0] 92)
 obtain ⟨W0,hW0⟩:∃ W,W=((w.alloc (.cells #[.int .i64 h.1,.int .u64 h.2] 71)).alloc (.cells #[.int .u64 ((m.s:Nat):Int),.int .u8 ((m.c:Nat):Int),.bool bh] 179)).alloc (.cells #[.int .u64 0,.int .u8 0,.string ⟨#[]⟩,.string ⟨#[]⟩,.bool false,.int .i64 0,.int .u64 0] 92):=⟨_,rfl⟩
 rw [← hW0] at b1 b2 b3 hB
 have hsz:W0.heap.size=w.heap.size+3:=by rw [hW0];simp
 have hSt0:=R.bel hSt hB
 have hf0:=R.far hSt (Nat.le_refl w.heap.size)
 have hf1:=R.far hSt (q:=w.heap.size+1) (by omega)
 have hf2:=R.far hSt (q:=w.heap.size+2) (by omega)
 have hD:=qh (R.down hm hSt0 (fun g=>⟨hp g,sle_s0 _⟩) hN hbd)
 have hgeF:w.heap.size≤w.heap.size+1∧w.heap.size≤w.heap.size+2:=by omega
 have hlt3:w.heap.size < W0.heap.size∧w.heap.size+1 < W0.heap.size∧w.heap.size+2 < W0.heap.size:=by omega
 have hw0:w0.heap.size≤w.heap.size:=(R.ro s w hSt).bel.size
 have htl0:t < W0.heap.size:=by omega
 replace hW0:=qh hW0
 replace hsz:=qh hsz
 replace hN:=qh hN
 replace hSt:=qh hSt
 replace hp:=qh hp
 replace R:=qh R
 replace hm:=qh hm
 replace hbd:=qh hbd
 replace hB:=qh hB
 replace hf1:=qh hf1
 replace hf2:=qh hf2
 replace hgeF:=qh hgeF
 replace hw0:=qh hw0
 unfold mkV hV at hD
 unfold hV
 go_enter Tryz.func103,Tryz.ntmps103
 go_upto_region 1 with fail
 rw [← hW0.out]
 simp only [show w.heap.size+1+1=w.heap.size+2 from rfl]
 obtain ⟨RB,hRB⟩:∃ b,b=w.heap.size+2:=⟨_,rfl⟩
 obtain ⟨FB,hFB⟩:∃ b,b=w.heap.size+1:=⟨_,rfl⟩
 obtain ⟨HB,hHB⟩:∃ b,b=w.heap.size:=⟨_,rfl⟩
 rw [← hHB] at b1
 rw [← hFB] at b2 hf1 hgeF
 rw [← hRB] at b3 hf2 hgeF
 rw [← hRB,← hFB,← hHB] at hlt3
 rw [← hRB,← hFB,← hHB]
 replace hRB:=qh hRB
 replace hFB:=qh hFB
 replace hHB:=qh hHB
 obtain ⟨h0,h1,hq,-,-⟩:=box2 b1
 have g0:W0.cell? ⟨FB,0,none⟩=some (.int .u64 ((m.s:Nat):Int)):=by rw [cell_of_heap b2];rfl
 have g1:W0.cell? ⟨FB,1,none⟩=some (.int .u8 ((m.c:Nat):Int)):=by rw [cell_of_heap b2];rfl
 replace b1:=qh b1
 replace b2:=qh b2
 replace b3:=qh b3
 go_wp2_with fail
 refine hD.out.mono ?_
 rintro e w1 ⟨s1,⟨hTo,-⟩,hSt1,hK,hcase⟩
 clear h0 h1 hq g0 g1 hD htl0
 have hK1:=(Kp.below (ρ:=rho s) hB.out).trans hK
 obtain ⟨c2,r2⟩:=hK.heap b2.out hf1.out.1
 obtain ⟨c3,r3⟩:=hK.heap b3.out hf2.out.1
 have hu:∃ (cl:List Value) (ok:Bool) (k:Nat),e=.returned (.tuple #[.agg cl.toArray,.bool ok])∧cl.length=111∧cl.toArray.all (·.oneCell')=true∧(∀ W,Below w1.heap.size w1 W→W.heap[w1.heap.size]?=some (.cells cl.toArray 95)→EnR w V St rho s pre m bh N FB RB w1.heap.size ok k W):=by
  have hwl:w.heap.size≤w1.heap.size:=hK1.size;have hfar:=R.out.far hSt1 (Nat.le_refl w1.heap.size);rcases hcase with ⟨g1,g2,rfl⟩ | ⟨g1,f,h',lo',A',B',g2,rfl,g3,g4,g5,g6⟩
  ·exact ⟨zlc,false,0,rfl,zlc_len,zlc_one,fun W hW hL=>.inr ⟨rfl,rfl,s1,⟨hTo,R.out.bel hSt1 hW,g1,hK1.trans (Kp.below hW),⟨Below.heap' hW c2,Below.heap' hW c3,hL,hgeF.out.1,hgeF.out.2,hwl⟩,⟨r2,r3,hfar.1⟩,g2⟩⟩⟩
  ·exact ⟨lfc f,true,_,rfl,lfc_len g2.S,lfc_one f,fun W hW hL=>.inl ⟨rfl,s1,f,h',lo',A',B',rfl,⟨hTo,R.out.bel hSt1 hW,g1,NxP.start g3 g4,g2,hK1.trans (Kp.below hW),⟨Below.heap' hW c2,Below.heap' hW c3,hL,hgeF.out.1,hgeF.out.2,hwl⟩,⟨r2,r3,hfar.1⟩,g6⟩⟩⟩
 obtain ⟨cl,ok,k,rfl,hcl,hco,hR⟩:=hu
 obtain ⟨k1,k2,k3⟩:=leaf_box w1 hcl
 have hR0:=qh (hR _ k2 k1)
 have q0:(w1.alloc (.cells Tryz.zeroCells95 95)).heap.size=w1.heap.size+1:=by simp
 replace hcl:=qh hcl
 replace hco:=qh hco
 replace k3:=qh k3
 clear hcase hR k1 k2 c2 c3 r2 r3 hK hK1 hTo hSt1 hlt3
 obtain ⟨W2,hW2⟩:∃ W,W=(w1.alloc (.cells Tryz.zeroCells95 95)).setCells w1.heap.size 0 cl:=⟨_,rfl⟩
 rw [← hW2] at hR0
 replace hW2:=qh hW2
 go_wp2_with (refine wpList_store_mid rfl 95 (.tmp 11) (.tmp 25) rfl w1.heap.size 0 cl.toArray (by rfl) (by rfl) k3.out (by rw [List.size_toArray,hcl.out];kernel_rfl) hco.out ?_)
 rw [← hW2.out]
 clear q0 k3 hcl hco hW2
 obtain ⟨LB,hLB⟩:∃ b,b=w1.heap.size:=⟨_,rfl⟩
 rw [← hLB] at hR0 ⊢
 replace hLB:=qh hLB
 go_loopg [12] k (fun gk v12 wr=>∃ ok,v12=.bool ok∧EnR w V St rho s pre m bh N FB RB LB ok gk wr)
 case atStart=>exact ⟨ok,rfl,hR0.out⟩
 case round =>
  obtain ⟨ok1,rfl,hI⟩:=hrel;clear hR0;rcases hI with ⟨rfl,s1,f,h1,lo1,A1,B1,rfl,hI⟩ | ⟨rfl,rfl,s1,hI⟩
  ·have hlf:=hI.lf
   have hl111:=lfc_len hlf.S;have hn14:=hlf.n;have hFi:=qh fun W=>lfFind_any f hlf m hm.out W
   have hpc:=place_cut hlf (mT m) bh;have hpl:place (mT m) bh f.bn.keys≤f.n:=by rw [← hlf.klen];exact place_le
   have hAt:=qh fun W=>lfAt_any f hlf (place (mT m) bh f.bn.keys) hpl W
   have hnd:=qh fun (W:World) (hb:W.heap[LB]?=some (.cells (lfc f).toArray 95))=>(lf_heap hb hlf.S).2.2.2
   have hEB:=hI.eb;have htl1:t < wr.heap.size:=Nat.lt_of_lt_of_le htl hI.kp.size;obtain ⟨i0,hi0⟩:∃ i,i=cut (mT m) f.bn.keys:=⟨_,rfl⟩;obtain ⟨hs,hhs⟩:∃ i,i=hasK (mT m) f.bn.keys:=⟨_,rfl⟩;obtain ⟨r,hr⟩:∃ i,i=place (mT m) bh f.bn.keys:=⟨_,rfl⟩;rw [← hi0,← hhs] at hFi;rw [← hi0,← hhs,← hr] at hpc;rw [← hr] at hpl hAt;unfold lfV at hFi hAt;unfold mkV at hFi;obtain ⟨cs,hcs⟩:∃ c,c=lfc f:=⟨_,rfl⟩;rw [← hcs] at hl111 hFi hAt hnd hEB;have hr0:=qh (range_of_heap hEB.lb);have g0:wr.cell? ⟨FB,0,none⟩=some (.int .u64 ((m.s:Nat):Int)):=by rw [cell_of_heap hEB.fb];rfl
   have g1:wr.cell? ⟨FB,1,none⟩=some (.int .u8 ((m.c:Nat):Int)):=by rw [cell_of_heap hEB.fb];rfl
   have gq:=heap_lt hEB.fb;replace hl111:=qh hl111;replace hcs:=qh hcs;replace hi0:=qh hi0;replace hhs:=qh hhs;replace hr:=qh hr;replace hlf:=qh hlf;replace hI:=qh hI;replace hEB:=qh hEB
   go_wp2_with (refine wpList_load_mid rfl 95 (.tmp 11) rfl LB 0 (by rfl) cs _ hr0.out Tryz.underlying95 rfl (by rw [hl111.out];kernel_rfl) ?_)
   refine (hFi.out _).mono ?_;rintro e w2 ⟨rfl,hb2⟩;have hEB2:=hEB.out.below hb2;have hb2h:=qh hb2;clear g0 g1 gq hr0 hb2;have g2:w2.cell? ⟨FB,2,none⟩=some (.bool bh):=by rw [cell_of_heap hEB2.fb];rfl
   have gq:=heap_lt hEB2.fb;have hr2:=qh (range_of_heap hEB2.lb);have htl2:=Nat.lt_of_lt_of_le htl1 hb2h.out.size;replace hEB2:=qh hEB2;replace hpc:=qh hpc;go_upto_region 4 with fail;go_cut [39] from 27 to 63 (fun v39 wz=>v39=.bool (hs && bh)∧wz=w2)
   case first =>
    cases hs with
    | true =>
     cases bh with
     | true =>
      go_wp2_with fail;go_meet;exact ⟨rfl,rfl⟩
     | false =>
      go_wp2_with fail;go_meet;exact ⟨rfl,rfl⟩
    | false =>
     go_wp2_with fail;go_meet;exact ⟨by simp,rfl⟩
   case rest =>
    obtain ⟨rfl,hwz⟩:=hcut;rw [hwz];clear hwz;clear g2;obtain ⟨cc,hcc⟩:∃ c,c=(hs && bh):=⟨_,rfl⟩;have hpc2:=hpc.out;rw [← hcc] at hpc2 ⊢;replace hcc:=qh hcc
    go_upto_if 39 with fail
    go_cut [13] from 27 to 63 (fun v13 wz=>v13=.int .i64 r∧wz=w2)
    case first =>
     cases cc with
     | true =>
      have hw1:IntKind.i64.wrap ((i0:Int)+1)=(i0:Int)+1:=IntWalk.i64_in _ (by simp at hpc2;omega);simp only [if_true] at hpc2;replace hpc2:=qh hpc2;go_wp2_with fail;go_meet;exact ⟨by rw [hpc2.out];rfl,rfl⟩
     | false =>
      simp only [Bool.false_eq_true,if_false,Nat.add_zero] at hpc2;replace hpc2:=qh hpc2;go_wp2_with fail;go_meet;exact ⟨by rw [hpc2.out],rfl⟩
    case rest =>
     obtain ⟨rfl,hwz⟩:=hcut;rw [hwz];clear hwz;clear hpc2 gq htl2;rcases Nat.lt_or_ge r f.n with hin | hout
     ·have hAi:=hAt.out
      rw [decide_eq_true hin] at hAi;have hnx:=hI.out.nx;have hF:=hlf.out;have hkk:f.bn.keys[place (mT m) bh f.bn.keys]?=some (mT (f.slot r).m):=by rw [← hr.out];exact hF.kget hin
      have hvv:f.bn.vals[place (mT m) bh f.bn.keys]?=some (f.slot r):=by rw [← hr.out];exact hF.vget hin
      have hok:=NxP.found R.out.ok hI.out.gone hnx hkk hvv rfl;have hge:=hI.out.eb.ge;have hw02:=hw0.out
      have hend:Hid (∀ (W W':World) (x:Sl),x=f.slot r→Below w2.heap.size w2 W→Upd [RB] W W'→EntE V St rho s pre m bh N w (.returned (.tuple #[slV x,.bool true,.bool false])) W'):=qh (by
       rintro W W' x rfl hW hu;have hbW:=hb2h.out.trans (hW.mono hb2h.out.size)
       exact ⟨s1,hI.out.tos,R.out.wr s1 W _ [RB] (R.out.bel hI.out.st hbW) hu (fun q hq=>by rw [List.mem_singleton.1 hq];exact ⟨by omega,hI.out.r0.2.1⟩),(hI.out.kp.trans (Kp.below hbW)).own hu (fun q hq=>by rw [List.mem_singleton.1 hq];exact hge.2.1),hI.out.bd.imp id (fun hh=>by unfold msr at hh;omega),.inr ⟨hI.out.gone,some (f.slot r),hok,rfl⟩⟩)
      clear hkk hvv hok hnx hge hw02 hF;obtain ⟨⟨⟨S,C⟩,rr,v,d,⟨l1,l2⟩⟩,hse⟩:∃ s,s=f.slot r:=⟨_,rfl⟩;rw [← hse] at hAi;have hend2:=qh fun W W'=>hend.out W W' _ hse
      clear hend;unfold slV at hAi hend2;simp only at hAi hend2;replace hse:=qh hse;replace hAi:=qh hAi
      go_wp2_with (refine wpList_load_mid rfl 95 (.tmp 11) rfl LB 0 (by rfl) cs _ hr2.out Tryz.underlying95 rfl (by rw [hl111.out];kernel_rfl) ?_)
      refine (hAi.out _).mono ?_;rintro e w3 ⟨rfl,hb3⟩;have hx:=heap_alloc_new w3 (.cells #[.int .u64 ((S:Nat):Int),.int .u8 ((C:Nat):Int),.string rr,.string v,.bool d,.int .i64 l1,.int .u64 l2] 92);have hbx:=(Below.refl w3.heap.size w3).alloc (Nat.le_refl _) (.cells #[.int .u64 ((S:Nat):Int),.int .u8 ((C:Nat):Int),.string rr,.string v,.bool d,.int .i64 l1,.int .u64 l2] 92);have hb4:=hb3.trans (hbx.mono hb3.size);have hEB4:=hEB2.out.below hb4;obtain ⟨W4,hW4⟩:∃ W,W=w3.alloc (.cells #[.int .u64 ((S:Nat):Int),.int .u8 ((C:Nat):Int),.string rr,.string v,.bool d,.int .i64 l1,.int .u64 l2] 92):=⟨_,rfl⟩;rw [← hW4] at hx hb4 hEB4;obtain ⟨a0,a1,a2,a3,a4,a5,a6,aq⟩:=box7 hx;obtain ⟨y0,y1,y2,y3,y4,y5,y6,yq⟩:=box7 hEB4.rb;have yf:=frozen_of_heap hEB4.rb;obtain ⟨hz1,hz2⟩:=set7 hEB4.rb (.int .u64 ((S:Nat):Int)) (.int .u8 ((C:Nat):Int)) (.string rr) (.string v) (.bool d) (.int .i64 l1) (.int .u64 l2);have hl7:=qh (run_loadVar_mid (P:=Tryz.prog) _ RB 0 92 [.int .u64 ((S:Nat):Int),.int .u8 ((C:Nat):Int),.string rr,.string v,.bool d,.int .i64 l1,.int .u64 l2] _ (range_of_heap hz1) Tryz.underlying92 rfl (by kernel_rfl));have hfin:=qh (hend2.out _ _ hb4 hz2);replace hb4:=qh hb4;replace hEB4:=qh hEB4;replace hx:=qh hx;replace hW4:=qh hW4;clear hz1 hz2 hb3 hbx;go_upto_region 7 with fail;rw [← hW4.out];go_wp2_with fail;simp only [set7w] at hl7 hfin;refine bodyPost_ret (v:=.tuple #[.agg #[.int .u64 ((S:Nat):Int),.int .u8 ((C:Nat):Int),.string rr,.string v,.bool d,.int .i64 l1,.int .u64 l2],.bool true,.bool false]) (by simp [results,Tryz.results103,asAddr,hl7.out]) rfl hfin.out
     ·have hAo:=hAt.out
      have hrn:r=f.n:=by omega
      rw [decide_eq_false (by omega),hlf.out.free r (by omega) (by omega)] at hAo;rw [show slV zeroSl=zSlV from rfl] at hAo;unfold zSlV at hAo;have hnx:=hI.out.nx;have hF:=hlf.out;have hpk:place (mT m) bh f.bn.keys=f.bn.keys.length:=by rw [← hr.out,hF.klen];exact hrn
      have hge:=hI.out.eb.ge;have hw02:=hw0.out;replace hAo:=qh hAo;replace hrn:=qh hrn
      go_wp2_with (refine wpList_load_mid rfl 95 (.tmp 11) rfl LB 0 (by rfl) cs _ hr2.out Tryz.underlying95 rfl (by rw [hl111.out];kernel_rfl) ?_)
      refine (hAo.out _).mono ?_;rintro e w3 ⟨rfl,hb3⟩;have hbx:=(Below.refl w3.heap.size w3).alloc (Nat.le_refl _) (.cells #[.int .u64 0,.int .u8 0,.string ⟨#[]⟩,.string ⟨#[]⟩,.bool false,.int .i64 0,.int .u64 0] 92);have hb4:=hb2h.out.trans ((hb3.trans (hbx.mono hb3.size)).mono hb2h.out.size);have hEB4:=hEB.out.below hb4;obtain ⟨W4,hW4⟩:∃ W,W=w3.alloc (.cells #[.int .u64 0,.int .u8 0,.string ⟨#[]⟩,.string ⟨#[]⟩,.bool false,.int .i64 0,.int .u64 0] 92):=⟨_,rfl⟩;rw [← hW4] at hb4 hEB4;replace hW4:=qh hW4;have hK4:=hI.out.kp.trans (Kp.below (ρ:=rho s1) hb4);have hSt4:=R.out.bel hI.out.st hb4;obtain ⟨d3,d4,d5⟩:=hnd.out W4 hEB4.lb;have dq:=heap_lt hEB4.lb;clear hb3 hbx hr2;go_upto_region 7 with fail;rw [← hW4.out]
      cases hbn:f.bnd with
      | false =>
       have hok:=NxP.none R.out.ok hI.out.gone hnx hpk hbn;obtain ⟨y0,y1,y2,y3,y4,y5,y6,yq⟩:=box7 hEB4.rb;have yf:=frozen_of_heap hEB4.rb;obtain ⟨hz1,hz2⟩:=set7 hEB4.rb (.int .u64 0) (.int .u8 0) (.string ⟨#[]⟩) (.string ⟨#[]⟩) (.bool false) (.int .i64 0) (.int .u64 0);have hl7:=qh (run_loadVar_mid (P:=Tryz.prog) _ RB 0 92 [.int .u64 0,.int .u8 0,.string ⟨#[]⟩,.string ⟨#[]⟩,.bool false,.int .i64 0,.int .u64 0] _ (range_of_heap hz1) Tryz.underlying92 rfl (by kernel_rfl));have hfin:Hid (EntE V St rho s pre m bh N w (.returned (.tuple #[zSlV,.bool false,.bool false])) _):=qh ⟨s1,hI.out.tos,R.out.wr s1 W4 _ [RB] hSt4 hz2 (fun q hq=>by rw [List.mem_singleton.1 hq];exact ⟨by omega,hI.out.r0.2.1⟩),hK4.own hz2 (fun q hq=>by rw [List.mem_singleton.1 hq];exact hge.2.1),hI.out.bd.imp id (fun hh=>by unfold msr at hh;omega),.inr ⟨hI.out.gone,none,hok,rfl⟩⟩;rw [hbn] at d3;replace hbn:=qh hbn;replace hb4:=qh hb4;replace hEB4:=qh hEB4;replace hK4:=qh hK4;replace hSt4:=qh hSt4;replace hpk:=qh hpk;clear hz1 hz2 hok hge hw02 hF hnx;go_wp2_with fail;simp only [set7w] at hl7 hfin;refine bodyPost_ret (v:=.tuple #[zSlV,.bool false,.bool false]) (by simp [results,Tryz.results103,asAddr,hl7.out]) rfl hfin.out
      | true =>
       obtain ⟨n5,A5,B5,hp5,hm5,hgo⟩:=NxP.go R.out.ok hI.out.gone hnx hpk hbn;have hnb:=heap_alloc_new W4 (.cells Tryz.zeroCells100 100);have hnB:=(Below.refl W4.heap.size W4).alloc (Nat.le_refl _) (.cells Tryz.zeroCells100 100);have hrNB:=(R.out.far hSt4 (Nat.le_refl W4.heap.size)).1;have hwN:w.heap.size≤W4.heap.size:=hK4.size;have hEB5:=hEB4.below hnB;have hSt5:=R.out.bel hSt4 hnB;have hK5:=hK4.trans (Kp.below (ρ:=rho s1) hnB);have hfb:=heap_lt hEB4.fb;have hrb:=heap_lt hEB4.rb;obtain ⟨W5,hW5⟩:∃ W,W=W4.alloc (.cells Tryz.zeroCells100 100):=⟨_,rfl⟩;rw [← hW5] at hnb hnB hEB5 hSt5 hK5;have hmp:1≤msr V s1 0 B5:=by unfold msr;omega
       have hLk:=R.out.look s1 W5 f.nx hSt5 (by
        rcases hI.out.bd with h9 | h9
        ·exact .inl h9
        ·rcases hN.out with h8 | h8
         ·exact .inl h8
         ·exact .inr (by omega))
       have e3:=keep hnB d3;have e4:=keep hnB d4;have e5:=keep hnB d5;have eq5:=Nat.lt_of_lt_of_le dq hnB.size;have htl5:t < W5.heap.size:=Nat.lt_of_lt_of_le htl hK5.size;unfold hV at hLk;replace hLk:=qh hLk;replace hW5:=qh hW5;rw [hbn] at d3;replace hbn:=qh hbn;replace hgo:=qh hgo;replace hp5:=qh hp5;replace hpk:=qh hpk;replace hnx:=qh hnx;replace hnb:=qh hnb;replace hnB:=qh hnB;replace hb4:=qh hb4;replace hEB4:=qh hEB4;replace hK4:=qh hK4;replace hSt4:=qh hSt4;replace hSt5:=qh hSt5;replace hK5:=qh hK5;replace hEB5:=qh hEB5;replace hF:=qh hF;replace hm5:=qh hm5;replace hmp:=qh hmp;replace hrNB:=qh hrNB;replace hwN:=qh hwN;replace hfb:=qh hfb;replace hrb:=qh hrb;replace hge:=qh hge;replace hw02:=qh hw02;replace e3:=qh e3;clear htl1;go_upto_region 12 with fail;rw [← hW5.out];clear d3 d4 d5 dq;obtain ⟨NB,hNB⟩:∃ b,b=W4.heap.size:=⟨_,rfl⟩;rw [← hNB] at hnb hrNB hwN hfb hrb ⊢;replace hNB:=qh hNB;go_wp2_with fail;refine hLk.out.mono ?_;rintro e w6 ⟨s2,⟨hTo,-⟩,hcn,hSt6,hK,hcase⟩;obtain ⟨hEB6,hr6⟩:=hEB5.out.kp hK hI.out.r0;obtain ⟨hnb6,hrn6⟩:=hK.heap hnb.out hrNB.out;have hne:NB≠FB∧NB≠RB:=by have h1:=hfb.out;have h2:=hrb.out;omega
       have hK6:=hK5.out.trans hK;have hTo6:=hI.out.tos.trans hTo;have hge2:=hge.out;have hw03:=hw02.out;have hwN2:=hwN.out
       have hwr:∀ W' S,(∀ q,q∈S→q=NB∨q=LB)→Upd S w6 W'→St s2 W'∧Kp (rho s) (rho s2) w W':=fun W' S hS hu =>
        ⟨R.out.wr s2 w6 W' S hSt6 hu (fun q hq=>by rcases hS q hq with rfl | rfl;exact ⟨by omega,hrn6⟩;exact ⟨by omega,hr6.2.2⟩),hK6.own hu (fun q hq=>by rcases hS q hq with rfl | rfl;exact hwN2;exact hge2.2.2)⟩
       have hu2 : ∃ (b : Bool) (cl : List Value) (ok : Bool) (k' : Nat), e = .returned (.tuple #[.agg (Value.bool b :: (cl ++ zic)).toArray, .bool ok]) ∧ cl.length = 111 ∧ cl.toArray.all (·.oneCell') = true ∧ (Value.bool b :: (cl ++ zic)).toArray.all (·.oneCell') = true ∧ k' < msr V s1 0 B1 + 1 ∧
           ∀ W',Upd [NB,LB] w6 W'→W'.heap[LB]?=some (.cells cl.toArray 95)→EnR w V St rho s pre m bh N FB RB LB ok k' W':=by
        have hmm:=hm5.out;have hmp2:=hmp.out;rcases hcase with ⟨g1,rfl⟩ | ⟨g1,hx⟩
        ·refine ⟨false,zlc,false,0,rfl,zlc_len,zlc_one,zMn_one,by omega,fun W' hu hL=>.inr ⟨rfl,rfl,s2,?_⟩⟩
         obtain ⟨u1,u2⟩:=hwr W' _ (by simp) hu;refine ⟨hTo6,u1,g1,u2,hEB6.leaf hne hu hL,hr6,?_⟩;rcases hcn with h9 | h9
         ·exact .inl h9
         ·rcases hI.out.bd with h8 | h8
          ·exact .inl h8
          ·exact .inr (by omega)
        ·obtain ⟨n6,A6,B6,hp6,hm6⟩:=hp5.out.look hTo g1 (R.out.ok.sane s2 g1)
         obtain ⟨x,rfl,hxm,hsn⟩:=hx ⟨n6,hp6.mem⟩;have hxn:=hp6.is (R.out.ok.sane s2 g1) hxm;have hxo:=hsn.one;rcases hsn.cases with ⟨f6,z1,z2,z3,z4⟩ | ⟨z1,-⟩
         ·rw [z4] at hxo
          refine ⟨true,lfc f6,true,msr V s2 0 B6+1,by rw [z4],lfc_len z3.S,lfc_one f6,hxo,by omega,fun W' hu hL=>.inl ⟨rfl,s2,f6,f.bn.next,f.bn.high,A6,B6,rfl,?_⟩⟩;obtain ⟨u1,u2⟩:=hwr W' _ (by simp) hu;have hp7:=hp6;rw [← hxn,z1] at hp7;refine ⟨hTo6,u1,g1,hgo.out s2 _ A6 B6 hTo hp7,z3,u2,hEB6.leaf hne hu hL,hr6,?_⟩;rcases hcn with h9 | h9
          ·exact .inl h9
          ·rcases hI.out.bd with h8 | h8
           ·exact .inl h8
           ·exact .inr (by omega)
         ·rw [hxn,hp6.ok.2] at z1
          simp at z1
       obtain ⟨b,cl,ok,k',rfl,hcl,hco,hcx,hk',hEn⟩:=hu2;have hcxl:(Value.bool b::(cl++zic)).length=120:=by simp [hcl,zic]
       have hsub:∀ W:World,W.heap[NB]?=some (.cells (Value.bool b::(cl++zic)).toArray 100)→W.rangeAt NB 1 cl:=fun W hW=>by
        have h0:W.rangeAt NB 0 ([Value.bool b]++(cl++zic)):=range_of_heap (cs:=Value.bool b::(cl++zic)) hW;have:=rng_sub (A:=[Value.bool b]) (B:=cl) (C:=zic) h0 (n:=1) rfl;simpa using this
       obtain ⟨cx,hcx0⟩:∃ c,c=Value.bool b::(cl++zic):=⟨_,rfl⟩;rw [← hcx0] at hcx hcxl hsub ⊢;have th6:w6.there NB 0 cx.toArray.size:=hb_thereA hnb6 (by rw [zMn_size,List.size_toArray,hcxl];omega);have k6:=hb_wholeA (vs:=cx) hnb6 (by rw [zMn_size,hcxl])
       have hnl:LB≠NB:=fun e=>by
        have h1:=hEB6.lb;rw [e,hnb6] at h1;injection h1 with h1;injection h1 with _ h2
        revert h2
        decide
       have k7:=hb_other (o:=0) hEB6.lb hnl cx;have u6:=(hb_upd w6 NB 0 cx).mono (S':=[NB,LB]) (by simp);have hr7:=hsub _ k6;obtain ⟨X1,hX1⟩:∃ X,X=w6.setCells NB 0 cx:=⟨_,rfl⟩;rw [← hX1] at k6 k7 u6 hr7;have th7:X1.there LB 0 cl.toArray.size:=hb_thereA k7 (by rw [List.size_toArray,List.size_toArray,hl111.out,hcl];omega);have k8:=hb_wholeA (vs:=cl) k7 (by rw [List.size_toArray,hl111.out,hcl]);have hEn8:=qh (hEn _ (u6.trans ((hb_upd X1 LB 0 cl).mono (by simp))) k8);have nq:=heap_lt k6;replace hX1:=qh hX1;replace hcx0:=qh hcx0;replace hcx:=qh hcx;replace hcxl:=qh hcxl;replace hcl:=qh hcl;replace hco:=qh hco;replace th6:=qh th6;replace th7:=qh th7;replace hr7:=qh hr7;replace hk':=qh hk';clear hcase hEn hsub hwr hEB6 hnb6 hne hnl k6 k7 k8 u6 hK hK6 hTo6 hSt6 hr6 hrn6 hge2 hw03 hwN2 hTo hcn e4 e5 eq5 htl5 hLk;go_upto_region 13 with (refine wpList_store_mid rfl 100 (.tmp 17) (.tmp 60) rfl NB 0 cx.toArray (by rfl) (by rfl) th6.out (by rw [List.size_toArray,hcxl.out];kernel_rfl) hcx.out ?_);rw [← hX1.out]
       go_wp2_with (first
        | refine wpList_load_mid rfl 95 (.tmp 62) rfl NB 1 (by rfl) cl _ hr7.out Tryz.underlying95 rfl (by rw [hcl.out];kernel_rfl) ?_
        | refine wpList_store_mid rfl 95 (.tmp 11) (.tmp 63) rfl LB 0 cl.toArray (by rfl) (by rfl) th7.out (by rw [List.size_toArray,hcl.out];kernel_rfl) hco.out ?_)
       go_roundg k'
       case rel=>exact ⟨ok,rfl,hEn8.out⟩
       case measure=>exact hk'.out
  ·obtain ⟨y0,y1,y2,y3,y4,y5,y6,yq⟩:=box7 hI.eb.rb
   have yf:=frozen_of_heap hI.eb.rb;obtain ⟨hz1,hz2⟩:=set7 hI.eb.rb (.int .u64 0) (.int .u8 0) (.string ⟨#[]⟩) (.string ⟨#[]⟩) (.bool false) (.int .i64 0) (.int .u64 0);have hl7:=qh (run_loadVar_mid (P:=Tryz.prog) _ RB 0 92 [.int .u64 0,.int .u8 0,.string ⟨#[]⟩,.string ⟨#[]⟩,.bool false,.int .i64 0,.int .u64 0] _ (range_of_heap hz1) Tryz.underlying92 rfl (by kernel_rfl));have hge:=hI.eb.ge;have hw02:=hw0.out;have hfin:Hid (EntE V St rho s pre m bh N w (.returned (.tuple #[zSlV,.bool false,.bool true])) _):=qh ⟨s1,hI.tos,R.out.wr s1 wr _ [RB] hI.st hz2 (fun q hq=>by rw [List.mem_singleton.1 hq];exact ⟨by omega,hI.r0.2.1⟩),hI.kp.own hz2 (fun q hq=>by rw [List.mem_singleton.1 hq];exact hge.2.1),hI.bd,.inl ⟨hI.gone,rfl⟩⟩;clear hz1 hz2 hge hw02 hI;go_wp2_with fail;simp only [set7w] at hl7 hfin;refine bodyPost_ret (v:=.tuple #[zSlV,.bool false,.bool true]) (by simp [results,Tryz.results103,asAddr,hl7.out]) rfl hfin.out
open Go.RowKit
theorem none_ok {w:World} {t:Nat} {a:Addr} (h:w.cell? ⟨t,1,none⟩=some (.pointer (some a))):Calls Tryz.prog 50 #[.pointer (some ⟨t,0,none⟩)] w fun e w'=>e=.returned (.bool false)∧w=w':=by
 have ht:=block_lt_of_cell h
 go_enter Tryz.func50,Tryz.ntmps50
 go_wp2
 go_ret
 exact ⟨rfl,rfl⟩
theorem none_zero {w:World} {t:Nat} (h:w.cell? ⟨t,1,none⟩=some (.pointer none)):Calls Tryz.prog 50 #[.pointer (some ⟨t,0,none⟩)] w fun e w'=>e=.returned (.bool true)∧w=w':=by
 have ht:=block_lt_of_cell h
 go_enter Tryz.func50,Tryz.ntmps50
 go_wp2
 go_ret
 exact ⟨rfl,rfl⟩
theorem none_nil (w:World):Calls Tryz.prog 50 #[.pointer none] w fun e w'=>e=.returned (.bool true)∧w=w':=by
 go_enter Tryz.func50,Tryz.ntmps50
 go_wp2
 go_ret
 exact ⟨rfl,rfl⟩
theorem extract_drop (k:Str) (n:Nat):ByteArray.extract k n k.size=bs ((bl k).drop n):=by
 apply ByteArray.ext
 apply Array.ext'
 simp only [ByteArray.data_extract,Array.toList_extract]
 show _=(bl k).drop n
 rw [List.extract_eq_take_drop]
 rw [List.take_of_length_le (by rw [List.length_drop];exact Nat.le_refl _)]
theorem drop_none (k:Str) {n:Nat} (h:k.size≤n):ByteArray.empty=bs ((bl k).drop n):=by
 rw [List.drop_of_length_le (by rw [bl_size];exact h)]
 rfl
set_option maxRecDepth 100000 in
theorem mtRest_any (k:Str) (i:Nat) (_hk:k.size≤4611686018427387904) (hi:i≤500000000000000000) (w:World):Calls Tryz.prog 55 #[.string k,.int .i64 i] w fun e w'=>e=.returned (.string (bs (keyAt k (i+1))))∧w=w':=by
 have hw1:IntKind.i64.wrap ((i:Int)+1)=(i:Int)+1:=IntWalk.i64_in _ (by omega)
 have hw2:IntKind.i64.wrap (8*((i:Int)+1))=8*((i:Int)+1):=IntWalk.i64_in _ (by omega)
 have ht:(8*((i:Int)+1)).toNat=8*(i+1):=by omega
 have hx:=qh (extract_drop k (8*(i+1)))
 have hz:=qh fun (h:k.size≤8*(i+1))=>drop_none k h
 obtain ⟨R,hR⟩:∃ R,R=bs (keyAt k (i+1)):=⟨_,rfl⟩
 rw [← hR]
 replace hR:=qh hR
 by_cases h8:8*(i+1)≤k.size
 ·have e1:(8*((i:Int)+1))≤(k.size:Int):=by omega
  have e2:¬ (k.size:Int) < 8*((i:Int)+1):=by omega
  have e3:min (k.size:Int) (8*((i:Int)+1))=8*((i:Int)+1):=by omega
  have h9:=qh h8;clear h8
  go_enter Tryz.func55,Tryz.ntmps55
  go_wp2
  ·go_ret
   refine ⟨?_,rfl⟩;rw [hR.out]
   first
    | exact congrArg (fun x=>Ending.returned (Value.string x)) (by rw [ht];exact hx.out)
    | exact congrArg (fun x=>Ending.returned (Value.string x)) hx.out
  ·go_ret
   refine ⟨?_,rfl⟩;rw [hR.out];exact congrArg (fun x=>Ending.returned (Value.string x)) (hz.out (by omega))
 ·have e1:(k.size:Int) < 8*((i:Int)+1):=by omega
  have e2:(k.size:Int)≤8*((i:Int)+1):=by omega
  have e4:¬ 8*((i:Int)+1) < (k.size:Int):=by omega
  have e3:min (k.size:Int) (8*((i:Int)+1))=(k.size:Int):=by omega
  have h9:=qh h8;clear h8
  go_enter Tryz.func55,Tryz.ntmps55
  go_wp2
  all_goals
   go_ret;refine ⟨?_,rfl⟩;rw [hR.out];exact congrArg (fun x=>Ending.returned (Value.string x)) (hz.out (by have:=h9.out;omega))
theorem kyUnslice_zero (s:Nat) (w:World):Calls Tryz.prog 104 #[.int .u64 s,.int .i64 0] w fun e w'=>e=.returned (.string s0)∧Below w.heap.size w w':=by
 go_enter Tryz.func104,Tryz.ntmps104
 go_wp2
 go_ret
 exact ⟨rfl,Below.refl _ _⟩
theorem kyUnslice_all (s c:Nat) (hc:c≤9) (w:World):Calls Tryz.prog 104 #[.int .u64 s,.int .i64 c] w fun e w'=>e=.returned (.string (bs ((ube 8 s).take (min c 8))))∧Below w.heap.size w w':=by
 rcases Nat.eq_zero_or_pos c with h | h
 ·subst h
  refine (kyUnslice_zero s w).mono ?_;rintro e w' ⟨rfl,hb⟩;exact ⟨rfl,hb⟩
 ·exact kyUnslice_any s c h hc w
theorem bl_slt:∀ a b:List UInt8,Op.bytesLess a b=decide (Lib.compareBytes a b < 0)
 | [],[]=>rfl
 | [],_::_=>rfl
 | _::_,[]=>rfl
 | a::x,b::y=>by
  unfold Op.bytesLess Lib.compareBytes;by_cases h1:a < b
  ·simp [h1]
  ·by_cases h2:b < a
   ·have:a≠b:=fun e=>UInt8.lt_irrefl a (by rw [← e] at h2;exact h2)
    simp [h1,h2,this]
   ·have:a=b:=UInt8.le_antisymm (UInt8.not_lt.1 h2) (UInt8.not_lt.1 h1)
    subst this;simp [h1,bl_slt x y]
theorem less_slt (a b:Str):Op.bytesLess a.toList b.toList=slt a b:=by
 rw [ByteArray.toList_eq,ByteArray.toList_eq,bl_slt]
 rfl
open Go.RowKit
def cL {σ:Type} (V:Vs σ) (s:σ):Nat:=(V.wk s+1)*100000000
theorem cL_le {σ:Type} {V:Vs σ} {s s':σ} (h:To V s s'):cL V s'≤cL V s:=by
 have:=h.le
 unfold cL
 exact Nat.mul_le_mul_right _ (by omega)
theorem Pos.cost {σ:Type} {V:Vs σ} {s:σ} {pre:Byt} {j:Nat} {h:Hd} {lo:Str} {n:BN Sl} {A B:Lev Sl} (hp:Pos V s pre j h lo n A B) (hs:SaneY (V.Y s)):msr V s j B≤cL V s:=by
 obtain ⟨l,h1,h2,h3⟩:=hp.ex
 have:=sane_level (hs.len l h1) (hs.nod l h1) h3
 unfold msr cL
 omega
def GetE {σ:Type} (V:Vs σ) (St:σ→World→Prop) (rho:σ→Nat→Nat) (s:σ) (key:Str) (N:Nat) (w:World) (e:Ending) (w':World):Prop :=
 ∃ s',To V s s'∧St s' w'∧Kp (rho s) (rho s') w w'∧(V.free=true∨V.cnt s'≤N) ∧
  ((V.gone s'=true∧e=.returned (.tuple #[.string ⟨#[]⟩,.bool false,.bool true])) ∨
   (V.gone s'=false∧∃ o:Option Str,((∀ C,MCt (V.Y s') C→M.cget C key=o)∧∃ i l,On (V.Y s') key i l∧(∀ sl,M.cget (content l.Ls) (mT (mkAt key i))=some sl→sl.deep=false)∧(1≤i→∃ s1,V.lb s s1∧V.lb s1 s'))∧e=.returned (.tuple #[.string (o.getD s0),.bool o.isSome,.bool false])))
structure GtI {σ:Type} (w:World) (V:Vs σ) (St:σ→World→Prop) (rho:σ→Nat→Nat) (s:σ) (key:Str) (N:Nat) (HB:Nat) (s1:σ) (i:Nat) (h:Hd) (W:World):Prop where
 tos:To V s s1
 st:St s1 W
 on:V.gone s1=false→∃ l,On (V.Y s1) key i l∧l.r=h
 il:i≤key.size
 kp:Kp (rho s) (rho s1) w W
 hb:W.heap[HB]?=some (.cells #[.int .i64 h.1,.int .u64 h.2] 71)
 ge:w.heap.size≤HB
 r0:rho s1 HB=0
 bd:V.free=true∨V.cnt s1+(key.size+1 - i)*cL V s1≤N
 lbi:i=0∨V.lb s s1
set_option maxRecDepth 100000 in
set_option maxHeartbeats 3000000 in
theorem Rdr.get {σ : Type} {w0 w : World} {V : Vs σ} {t a : Nat} {vis : Value} {St : σ → World → Prop} {rho : σ → Nat → Nat} {KM : Nat} {s : σ} (R : Rdr w0 V t a vis St rho KM) (key : Str) (hk : key.size ≤ 100000000) (hSt : St s w)
    {N:Nat} (hN:V.free=true∨N≤KM) (hbd:V.free=true∨V.cnt s+(key.size+1)*cL V s≤N):Calls Tryz.prog 15 #[.pointer (some ⟨t,0,none⟩),.string key,vis] w (GetE V St rho s key N w):=by
 have hw0:w0.heap.size≤w.heap.size:=(R.ro s w hSt).bel.size
 have hNo:=qh (none_ok (R.tree s w hSt))
 have htl:t < w.heap.size:=block_lt_of_cell (R.tree s w hSt)
 obtain ⟨r,c2,c3,hr⟩:=R.root s w hSt
 have hI0:GtI w V St rho s key N w.heap.size s 0 r (w.alloc (.cells #[.int .i64 r.1,.int .u64 r.2] 71)):=by
  have hB:=(Below.refl w.heap.size w).alloc (Nat.le_refl _) (.cells #[.int .i64 r.1,.int .u64 r.2] 71);refine ⟨To.refl V s,R.bel hSt hB,fun g=>?_,Nat.zero_le _,Kp.below hB,heap_alloc_new _ _,Nat.le_refl _,(R.far hSt (Nat.le_refl _)).1,by simpa using hbd,.inl rfl⟩;obtain ⟨l,F',e1,e2⟩:=hr g;obtain ⟨l2,F2,e3,e4⟩:=on_root (R.ok.sane s g).ok key;rw [e1] at e3;injection e3 with e3 _;subst e3;exact ⟨l,e4,e2⟩
 clear hr
 replace hI0:=qh hI0
 replace hN:=qh hN
 replace hbd:=qh hbd
 replace hSt:=qh hSt
 replace R:=qh R
 replace hw0:=qh hw0
 go_enter Tryz.func15,Tryz.ntmps15
 go_wp2_with fail
 refine hNo.out.mono ?_
 rintro e w1 ⟨rfl,rfl⟩
 obtain ⟨W0,hW0⟩:∃ W,W=w.alloc (.cells #[.int .i64 r.1,.int .u64 r.2] 71):=⟨_,rfl⟩
 rw [← hW0] at hI0
 replace hW0:=qh hW0
 go_wp2_with fail
 rw [← hW0.out]
 obtain ⟨HB,hHB⟩:∃ b,b=w.heap.size:=⟨_,rfl⟩
 rw [← hHB] at hI0 ⊢
 replace hHB:=qh hHB
 go_loopg [10] (key.size+1) (fun gk v10 wr=>∃ s1 i h,gk=key.size+1 - i∧v10=.int .i64 ((i:Nat):Int)∧GtI w V St rho s key N HB s1 i h wr)
 case atStart=>exact ⟨s,0,r,rfl,rfl,hI0.out⟩
 case round =>
  obtain ⟨s1,i,h,rfl,rfl,hI⟩:=hrel;clear hI0 c2 c3;have hik:=hI.il;have hmk:=mkOf_ok (keyAt key i);have hMo:=qh fun W=>mkOf_any key i (by omega) (by omega) W
  have htl1:t < wr.heap.size:=Nat.lt_of_lt_of_le htl hI.kp.size;obtain ⟨m,hm⟩:∃ m,m=mkAt key i:=⟨_,rfl⟩;have hmok:MkOK m:=by rw [hm];exact hmk
  rw [← hm] at hMo;unfold mkV at hMo;replace hm:=qh hm;replace hmok:=qh hmok;replace hI:=qh hI;replace hik:=qh hik;clear hmk;go_wp2_with fail;refine (hMo.out _).mono ?_;rintro e w2 ⟨rfl,hb2⟩;have hxm:=heap_alloc_new w2 (.cells #[.int .u64 ((m.s:Nat):Int),.int .u8 ((m.c:Nat):Int)] 90);have hbm:=(Below.refl w2.heap.size w2).alloc (Nat.le_refl _) (.cells #[.int .u64 ((m.s:Nat):Int),.int .u8 ((m.c:Nat):Int)] 90);have hb3:=hb2.trans (hbm.mono hb2.size);have hSt3:=R.out.bel hI.out.st hb3;have hh3:=Below.heap' hb3 hI.out.hb;have hK3:=hI.out.kp.trans (Kp.below (ρ:=rho s1) hb3);have hrm:rho s1 w2.heap.size=0:=(R.out.far hI.out.st hb2.size).1;obtain ⟨W3,hW3⟩:∃ W,W=w2.alloc (.cells #[.int .u64 ((m.s:Nat):Int),.int .u8 ((m.c:Nat):Int)] 90):=⟨_,rfl⟩;rw [← hW3] at hxm hb3 hSt3 hh3 hK3
  have hps:∃ pre j n,(V.gone s1=false→(∃ l,On (V.Y s1) key i l∧l.pre=pre)∧Pos V s1 pre j h s0 n [] [])∧msr V s1 j []≤cL V s1:=by
   cases hg:V.gone s1 with
   | true=>exact ⟨[],0,lf0,fun h=>(by cases h),by unfold msr cL;simp;omega⟩
   | false =>
    obtain ⟨l,ho,rfl⟩:=hI.out.on hg;obtain ⟨j,n,hp⟩:=Pos.start (R.out.ok.sane s1 hg) ho.mem;exact ⟨l.pre,j,n,fun _=>⟨⟨l,ho,rfl⟩,hp⟩,hp.cost (R.out.ok.sane s1 hg)⟩
  obtain ⟨pre,j,n,hps,hcst⟩:=hps
  have hD:=R.out.down hmok.out hSt3 (fun g=>⟨(hps g).2,sle_s0 _⟩) (N:=V.cnt s1+cL V s1) (by
   rcases hI.out.bd with h9 | h9
   ·exact .inl h9
   ·rcases hN.out with h8 | h8
    ·exact .inl h8
    ·refine .inr (Nat.le_trans (Nat.le_trans (Nat.add_le_add_left ?_ _) h9) h8)
     exact Nat.le_mul_of_pos_left _ (by have:=hik.out;omega)) (.inr (Nat.add_le_add_left hcst _))
  obtain ⟨h0,h1,hq,-,-⟩:=box2 hh3;obtain ⟨m0,m1,mq,-,-⟩:=box2 hxm;have htl3:=Nat.lt_of_lt_of_le htl1 hb3.size;unfold mkV hV at hD;replace hD:=qh hD;replace hW3:=qh hW3;replace hh3:=qh hh3;replace hxm:=qh hxm;replace hK3:=qh hK3;replace hrm:=qh hrm;replace hps:=qh hps;clear hb2 hbm hb3 hSt3 hcst;go_upto_region 7 with fail;rw [← hW3.out];obtain ⟨MB,hMB⟩:∃ b,b=w2.heap.size:=⟨_,rfl⟩;rw [← hMB] at hxm m0 m1 mq hrm ⊢;replace hMB:=qh hMB;go_wp2_with fail;refine hD.out.mono ?_;rintro e w4 ⟨s2,⟨hTo,hlb⟩,hSt4,hK,hcase⟩;replace hlb:=qh hlb;clear h0 h1 hq m0 m1 mq htl3 hD;have hTo2:=hI.out.tos.trans hTo;have hK4:=hK3.out.trans hK;obtain ⟨hh4,rh4⟩:=hK.heap hh3.out hI.out.r0;obtain ⟨hm4,rm4⟩:=hK.heap hxm.out hrm.out;have hw02:=hw0.out;have hge:=hI.out.ge;rcases hcase with ⟨g1,g2,rfl⟩ | ⟨g1,f,h',lo',A',B',hf,rfl,g3,g4,g5,g6⟩
  ·obtain ⟨k1,k2,k3⟩:=leaf_box w4 zlc_len
   have hfin:Hid (GetE V St rho s key N w (.returned (.tuple #[.string ⟨#[]⟩,.bool false,.bool true])) _):=qh ⟨s2,hTo2,R.out.bel hSt4 k2,hK4.trans (Kp.below k2),by
    rcases g2 with h9 | h9
    ·exact .inl h9
    ·rcases hI.out.bd with h8 | h8
     ·exact .inl h8
     ·refine .inr (Nat.le_trans h9 (Nat.le_trans (Nat.add_le_add_left ?_ _) h8))
      exact Nat.le_mul_of_pos_left _ (by have:=hik.out;omega),.inl ⟨g1,rfl⟩⟩
   have hzl:=qh zlc_len;have hzo:=qh zlc_one;obtain ⟨cz,hcz⟩:∃ c,c=zlc:=⟨_,rfl⟩;rw [← hcz] at k3 hfin hzl hzo ⊢;have q0:(w4.alloc (.cells Tryz.zeroCells95 95)).heap.size=w4.heap.size+1:=by simp
   replace k3:=qh k3;replace hcz:=qh hcz;clear k1 k2 g2 hTo hSt4 hK hTo2 hK4 hh4 rh4 hm4 rm4 hw02 hge
   go_wp2_with (refine wpList_store_mid rfl 95 (.tmp 12) (.tmp 35) rfl w4.heap.size 0 cz.toArray (by rfl) (by rfl) k3.out (by rw [List.size_toArray,hzl.out];kernel_rfl) hzo.out ?_)
   go_ret3;exact hfin.out
  ·have hs2:=R.out.ok.sane s2 g1
   obtain ⟨⟨l,ho,hlp⟩,-⟩:=hps.out (hTo.evo g1).1
   have hOn:∃ l2,On (V.Y s2) key i l2∧l2.pre=pre∧M.cget (content l2.Ls) (mT m)=if hasK (mT m) f.bn.keys=true then f.bn.vals[cut (mT m) f.bn.keys]? else none:=by
    obtain ⟨l2,q1,q2,q3⟩:=g3.ex;refine ⟨l2,⟨q1,by rw [q2,← hlp];exact ho.pre,ho.lt⟩,q2,?_⟩;exact q3.get (hs2.ok.tow l2 q1) g4 g5
   obtain ⟨l2,hO2,hp2,hcg⟩:=hOn;have hbd2:V.free=true∨V.cnt s2≤V.cnt s1+cL V s1:=g6.imp id fun hh=>by unfold msr at hh;omega
   have hbd3:V.free=true∨V.cnt s2≤N:=by
    rcases hbd2 with h9 | h9
    ·exact .inl h9
    ·rcases hI.out.bd with h8 | h8
     ·exact .inl h8
     ·refine .inr (Nat.le_trans h9 (Nat.le_trans (Nat.add_le_add_left ?_ _) h8))
      exact Nat.le_mul_of_pos_left _ (by have:=hik.out;omega)
   obtain ⟨k1,k2,k3⟩:=leaf_box w4 (lfc_len hf.S);have hmm:=hm.out;have hcl:=cut_le (mT m) f.bn.keys;rw [hf.klen] at hcl;have hFi:=qh fun W=>lfFind_any f hf m hmok.out W
   have hAt:=qh fun W=>lfAt_any f hf (cut (mT m) f.bn.keys) hcl W
   have hhas:=hf.has hmok.out;have hlen:=qh (lfc_len hf.S);have hone:=qh (lfc_one f);have hSt5:=R.out.bel hSt4 k2;have hK5:=hK4.trans (Kp.below (ρ:=rho s2) k2);have hh5:=Below.heap' k2 hh4;have hm5:=Below.heap' k2 hm4;have hNone:(∀ C,MCt (V.Y s2) C→M.cget (content l2.Ls) (mT (mkAt key i))=none→M.cget C key=none):=fun C hC hn=>hC.none hs2.ok hO2 hn
   have endG:Hid (∀ (W:World) (o:Option Str),(∀ C,MCt (V.Y s2) C→M.cget C key=o)→(∀ sl,M.cget (content l2.Ls) (mT (mkAt key i))=some sl→sl.deep=false)→Below ((w4.alloc (.cells Tryz.zeroCells95 95)).setCells w4.heap.size 0 (lfc f)).heap.size ((w4.alloc (.cells Tryz.zeroCells95 95)).setCells w4.heap.size 0 (lfc f)) W→GetE V St rho s key N w (.returned (.tuple #[.string (o.getD s0),.bool o.isSome,.bool false])) W):=qh fun W o hC hnd hW=>⟨s2,hTo2,R.out.bel hSt5 hW,hK5.trans (Kp.below hW),hbd3,.inr ⟨g1,o,⟨hC,i,l2,hO2,hnd,fun h9=>⟨s1,hI.out.lbi.resolve_left (by omega),hlb.out⟩⟩,rfl⟩⟩
   obtain ⟨i0,hi0⟩:∃ x,x=cut (mT m) f.bn.keys:=⟨_,rfl⟩;obtain ⟨hs,hhs⟩:∃ x,x=hasK (mT m) f.bn.keys:=⟨_,rfl⟩;rw [← hmm] at hNone;rw [← hi0] at hcl hAt hhas;rw [← hhs] at hhas;rw [← hi0,← hhs] at hcg hFi;have hvg:=fun (h9:i0 < f.n)=>hf.vget h9
   have hsk:=fun (h9:i0 < f.n)=>hf.sok h9
   unfold lfV at hFi hAt ⊢;unfold mkV at hFi;obtain ⟨cs,hcs⟩:∃ c,c=lfc f:=⟨_,rfl⟩;rw [← hcs] at k1 k2 k3 hFi hAt hlen hone hSt5 hK5 hh5 hm5 endG ⊢;have q0:(w4.alloc (.cells Tryz.zeroCells95 95)).heap.size=w4.heap.size+1:=by simp
   obtain ⟨W5,hW5⟩:∃ W,W=(w4.alloc (.cells Tryz.zeroCells95 95)).setCells w4.heap.size 0 cs:=⟨_,rfl⟩;rw [← hW5] at k1 k2 hSt5 hK5 hh5 hm5 endG;obtain ⟨m0,m1,mq,-,-⟩:=box2 hm5;have hr5:=qh (range_of_heap k1);replace hW5:=qh hW5;replace k1:=qh k1;replace k3:=qh k3;replace hh5:=qh hh5;replace hm5:=qh hm5;replace hSt5:=qh hSt5;replace hK5:=qh hK5;replace hcs:=qh hcs;replace hi0:=qh hi0;replace hhs:=qh hhs;replace hcg:=qh hcg;replace hhas:=qh hhas;replace hNone:=qh hNone;replace hvg:=qh hvg;replace hsk:=qh hsk;replace hbd2:=qh hbd2;replace hbd3:=qh hbd3;replace hO2:=qh hO2;replace hs2:=qh hs2;replace hcl:=qh hcl;replace hTo2:=qh hTo2;replace hTo:=qh hTo;replace rh4:=qh rh4;replace g1:=qh g1;clear g3 g4 g5 g6 hSt4 hK hK4 hh4 hm4 rm4 hmm hlp ho hp2 hf k2;go_upto_region 8 with (refine wpList_store_mid rfl 95 (.tmp 12) (.tmp 35) rfl w4.heap.size 0 cs.toArray (by rfl) (by rfl) k3.out (by rw [List.size_toArray,hlen.out];kernel_rfl) hone.out ?_);rw [← hW5.out];clear q0;obtain ⟨LB,hLB⟩:∃ b,b=w4.heap.size:=⟨_,rfl⟩;rw [← hLB] at k1 hr5 ⊢;replace hLB:=qh hLB
   go_wp2_with (refine wpList_load_mid rfl 95 (.tmp 12) rfl LB 0 (by rfl) cs _ hr5.out Tryz.underlying95 rfl (by rw [hlen.out];kernel_rfl) ?_)
   refine (hFi.out _).mono ?_;rintro e w6 ⟨rfl,hb6⟩;have hr6:=qh (range_of_heap (Below.heap' hb6 k1.out));replace hb6:=qh hb6;clear m0 m1 mq;have hAx:=hAt.out;have hxs:∃ x,x=f.slot i0:=⟨_,rfl⟩;obtain ⟨⟨⟨S,C⟩,rr,v,d,⟨l1,l2'⟩⟩,hse⟩:=hxs;obtain ⟨fl,hfl⟩:∃ b,b=decide (i0 < f.n):=⟨_,rfl⟩;rw [← hse,← hfl] at hAx;unfold slV at hAx;simp only at hAx;replace hAx:=qh hAx;replace hse:=qh hse;replace hfl:=qh hfl
   go_wp2_with (refine wpList_load_mid rfl 95 (.tmp 12) rfl LB 0 (by rfl) cs _ hr6.out Tryz.underlying95 rfl (by rw [hlen.out];kernel_rfl) ?_)
   refine (hAx.out _).mono ?_;rintro e w7 ⟨rfl,hb7⟩;have hx:=heap_alloc_new w7 (.cells #[.int .u64 ((S:Nat):Int),.int .u8 ((C:Nat):Int),.string rr,.string v,.bool d,.int .i64 l1,.int .u64 l2'] 92);have hb8:=hb6.out.trans ((hb7.trans (((Below.refl w7.heap.size w7).alloc (Nat.le_refl _) (.cells #[.int .u64 ((S:Nat):Int),.int .u8 ((C:Nat):Int),.string rr,.string v,.bool d,.int .i64 l1,.int .u64 l2'] 92)).mono hb7.size)).mono hb6.out.size);obtain ⟨W8,hW8⟩:∃ W,W=w7.alloc (.cells #[.int .u64 ((S:Nat):Int),.int .u8 ((C:Nat):Int),.string rr,.string v,.bool d,.int .i64 l1,.int .u64 l2'] 92):=⟨_,rfl⟩;rw [← hW8] at hx hb8;obtain ⟨a0,a1,a2,a3,a4,a5,a6,aq⟩:=box7 hx;have hh8:=Below.heap' hb8 hh5.out;replace hW8:=qh hW8;replace hx:=qh hx;replace hb8:=qh hb8;clear hb7 hr5 hr6;go_upto_region 12 with fail;rw [← hW8.out];obtain ⟨XB,hXB⟩:∃ b,b=w7.heap.size:=⟨_,rfl⟩;rw [← hXB] at a0 a1 a2 a3 a4 a5 a6 aq hx ⊢;replace hXB:=qh hXB
   cases hs with
   | false =>
    have hfin:=qh fun (W:World) (hW:Below W8.heap.size W8 W)=>endG.out W none (fun C hC=>hNone.out C hC (by have:=hcg.out;simpa using this)) (fun sl hsl=>by have h1:M.cget (content l2.Ls) (mT m)=none:=(by have:=hcg.out;simpa using this);rw [hm.out,hsl] at h1;cases h1) (hb8.out.trans (hW.mono hb8.out.size))
    replace hh8:=qh hh8;go_quiet (fail);go_wp2_with fail;go_ret3;exact hfin.out _ (below_drewN (Below.refl _ _) _)
   | true =>
    obtain ⟨hin,hsm⟩:=hhas.out.1 rfl
    have hcgs:M.cget (content l2.Ls) (mT (mkAt key i))=some (f.slot i0):=by
     have:=hcg.out;rw [if_pos rfl,hvg.out hin,hm.out] at this;exact this
    have hse2:=hse.out;have hsok:=hsk.out hin;rw [← hse2] at hcgs hsok
    cases d with
    | false =>
     have hRs:Hid (∀ W,Calls Tryz.prog 55 #[.string key,.int .i64 i] W fun e w'=>e=.returned (.string (bs (keyAt key (i+1))))∧w'=W):=qh fun W=>(mtRest_any key i (by omega) (by have:=hik.out;omega) W).mono fun _ _ h9=>⟨h9.1,h9.2.symm⟩
     have hPl:∀ C,MCt (V.Y s2) C→M.cget C key=if bl rr=keyAt key (i+1) then some v else none:=fun C hC=>hC.plain hs2.out.ok hO2.out hcgs rfl
     have hsb:=str_beq rr (bs (keyAt key (i+1)));by_cases heq:rr=bs (keyAt key (i+1))
     ·have hfin:=qh fun (W:World) (hW:Below W8.heap.size W8 W)=>endG.out W (some v) (fun C hC=>by rw [hPl C hC,if_pos (by rw [heq,bl_bs])]) (fun sl hsl=>by rw [hcgs] at hsl;injection hsl with hsl;rw [← hsl]) (hb8.out.trans (hW.mono hb8.out.size))
      rw [decide_eq_true heq] at hsb;obtain ⟨Z,hZ⟩:∃ Z,Z=bs (keyAt key (i+1)):=⟨_,rfl⟩;rw [← hZ] at hRs hsb;replace hZ:=qh hZ;replace heq:=qh heq;replace hPl:=qh hPl;replace hcgs:=qh hcgs;replace hse2:=qh hse2;replace hsok:=qh hsok;replace hh8:=qh hh8;replace hsm:=qh hsm;go_quiet ((go_at_call 55;exact Calls.quiet_of_same (hRs.out _)));go_wp2_with fail;go_ret3;exact hfin.out _ (below_drewN (Below.refl _ _) _)
     ·have hfin:=qh fun (W:World) (hW:Below W8.heap.size W8 W)=>endG.out W none (fun C hC=>by rw [hPl C hC,if_neg (fun h9=>heq (by rw [← h9,bs_bl]))]) (fun sl hsl=>by rw [hcgs] at hsl;injection hsl with hsl;rw [← hsl]) (hb8.out.trans (hW.mono hb8.out.size))
      rw [decide_eq_false heq] at hsb;obtain ⟨Z,hZ⟩:∃ Z,Z=bs (keyAt key (i+1)):=⟨_,rfl⟩;rw [← hZ] at hRs hsb;replace hZ:=qh hZ;replace heq:=qh heq;replace hPl:=qh hPl;replace hcgs:=qh hcgs;replace hse2:=qh hse2;replace hsok:=qh hsok;replace hh8:=qh hh8;replace hsm:=qh hsm;go_quiet ((go_at_call 55;exact Calls.quiet_of_same (hRs.out _)));go_wp2_with fail;go_ret3;exact hfin.out _ (below_drewN (Below.refl _ _) _)
    | true =>
     obtain ⟨l3,hO3,hl3⟩:=hO2.out.step hs2.out.ok hcgs rfl
     have hil:i+1≤key.size:=by
      have:=hO3.lt.resolve_left (by omega);rw [bl_size] at this;omega
     have hw1:IntKind.i64.wrap ((i:Int)+1)=(i:Int)+1:=IntWalk.i64_in _ (by omega)
     have hbd9:V.free=true∨V.cnt s2+(key.size+1 - (i+1))*cL V s2≤N:=by
      rcases hbd2.out with h9 | h9
      ·exact .inl h9
      ·rcases hI.out.bd with h8 | h8
       ·exact .inl h8
       ·right
        have e1:=cL_le hTo.out;have e2:(key.size+1 - (i+1))*cL V s2≤(key.size+1 - (i+1))*cL V s1:=Nat.mul_le_mul_left _ e1;have e3:key.size+1 - i=(key.size+1 - (i+1))+1:=by omega
        rw [e3,Nat.add_mul,Nat.one_mul] at h8;omega
     have hge2:=hI.out.ge;have hw03:=hw0.out
     have hnext:Hid (∀ (W W':World),Below W8.heap.size W8 W→Upd [HB] W W'→W'.heap[HB]?=some (.cells #[.int .i64 l1,.int .u64 l2'] 71)→GtI w V St rho s key N HB s2 (i+1) (l1,l2') W'):=qh fun W W' hW hu hl=>by
      have hbW:=hb8.out.trans (hW.mono hb8.out.size);exact ⟨hTo2.out,R.out.wr s2 W W' [HB] (R.out.bel hSt5.out hbW) hu (fun q hq=>by rw [List.mem_singleton.1 hq];exact ⟨by omega,rh4.out⟩),fun _=>⟨l3,hO3,hl3⟩,hil,(hK5.out.trans (Kp.below hbW)).own hu (fun q hq=>by rw [List.mem_singleton.1 hq];exact hge2),hl,hge2,rh4.out,hbd9,.inr (R.out.ok.lbl _ _ _ hI.out.tos hlb.out)⟩
     obtain ⟨p0,p1,pq,pf0,pf1⟩:=box2 hh8;have hset:Hid (∀ W:World,W.heap[HB]?=some (.cells #[.int .i64 h.1,.int .u64 h.2] 71)→((W.setCell ⟨HB,0,none⟩ (.int .i64 l1)).setCell ⟨HB,1,none⟩ (.int .u64 l2')).heap[HB]?=some (.cells #[.int .i64 l1,.int .u64 l2'] 71)∧Upd [HB] W ((W.setCell ⟨HB,0,none⟩ (.int .i64 l1)).setCell ⟨HB,1,none⟩ (.int .u64 l2'))):=qh fun W hW=>⟨by rw [heap_set_same (heap_set_same hW 0 _) 1 _];rfl,((Upd.refl [HB] W).setCell (p:=⟨HB,0,none⟩) (by simp) _).setCell (p:=⟨HB,1,none⟩) (by simp) _⟩
     replace hh8:=qh hh8;replace hcgs:=qh hcgs;replace hse2:=qh hse2;replace hsok:=qh hsok;replace hsm:=qh hsm;replace hbd9:=qh hbd9;replace hil:=qh hil;replace hl3:=qh hl3;replace hO3:=qh hO3;clear hge2 hw03;go_quiet (fail);go_wp2_with fail;go_roundg (key.size+1 - (i+1))
     case rel =>
      refine ⟨s2,i+1,(l1,l2'),rfl,by go_num,?_⟩;obtain ⟨u1,u2⟩:=hset.out (W8.drewN _) hh8.out;exact hnext.out _ _ (below_drewN (Below.refl _ _) _) u2 u1
     case measure=>have:=hil.out;omega
open Go.Lib
theorem slt_bl {x y:Str} {p A B:Byt} (hx:bl x=p++A) (hy:bl y=p++B):slt x y=decide (compareBytes A B < 0):=by
 show decide (compareBytes (bl x) (bl y) < 0)=_
 rw [hx,hy,cb_app]
theorem mT_slt (A B:Byt):slt (mT (mkOf A)) (mT (mkOf B))=decide (compareBytes (mtx (mkOf A)) (mtx (mkOf B)) < 0):=by
 show decide (compareBytes (bl (bs _)) (bl (bs _)) < 0)=_
 rw [bl_bs,bl_bs]
theorem slt_mark {x y:Str} {p A B:Byt} (hx:bl x=p++A) (hy:bl y=p++B) (h:slt (mT (mkOf A)) (mT (mkOf B))=true):slt x y=true:=by
 rw [slt_bl hx hy,cb_mark,if_neg]
 ·rw [← mT_slt];exact h
 ·intro e
  rw [e,slt_irrefl] at h
  cases h
theorem sle_total {a b:Str} (h:sle a b=false):slt b a=true:=by
 unfold sle at h
 simpa using h
section
variable {σ:Type} {V:Vs σ} {s s2 s3:σ} {pre:Byt} {i:Nat} {key x:Str} {after bh:Bool} {m:Mk} {sl:Sl} {l:Ly} {o:Option (Str×Str)}
structure InL (pre:Byt) (i:Nat) (x:Str):Prop where
 pre:pre=(bl x).take (8*i)
 lt:i=0∨8*i < (bl x).length
theorem InL.eq (h:InL pre i x):bl x=pre++keyAt x i:=by rw [h.pre];exact (List.take_append_drop _ _).symm
abbrev K0 (pre:Byt) (key:Str):Str:=bs (pre++bl key)
theorem K0_eq:bl (K0 pre key)=pre++bl key:=bl_bs _
structure Passed (V:Vs σ) (pre:Byt) (i:Nat) (key:Str) (after:Bool) (m:Mk) (bh:Bool) (s:σ):Prop where
 ab:∀ x,InL pre i x→abv (K0 pre key) after x=true→abv (mT m) bh (mT (mkAt x i))=false→V.Ab s x
 ge:sle (mT (mkOf (bl key))) (mT m)=true
structure SrOK (V:Vs σ) (pre:Byt) (i:Nat) (key:Str) (after:Bool) (s:σ) (o:Option (Str×Str)):Prop where
 is:∀ p,o=some p→abv (K0 pre key) after p.1=true∧InL pre i p.1∧PM (V.Y s) p.1 p.2
 gap:∀ x,InL pre i x→abv (K0 pre key) after x=true→(∀ p,o=some p→slt x p.1=true)→V.Ab s x
theorem abv_mark (hx:InL pre i x) (h:abv (K0 pre key) after x=true):sle (mT (mkOf (bl key))) (mT (mkAt x i))=true:=by
 cases hh:sle (mT (mkOf (bl key))) (mT (mkAt x i)) with
 | true=>rfl
 | false =>
  have h1:=slt_mark hx.eq K0_eq (sle_total hh);have h2:=abv_sle h;rw [sle_iff,h1] at h2
  cases h2
theorem mark_abv (hx:InL pre i x) (h:slt (mT (mkOf (bl key))) (mT (mkAt x i))=true):abv (K0 pre key) after x=true:=by
 have h1:=slt_mark K0_eq hx.eq h
 unfold abv
 cases after
 ·exact slt_sle h1
 ·exact h1
theorem Passed.start (s:σ):Passed V pre i key after (mkOf (bl key)) false s :=
 ⟨fun x hx h1 h2=>(by
  have:=abv_mark hx h1;unfold abv at h2;simp only [Bool.false_eq_true,if_false] at h2;rw [this] at h2
  exact absurd h2 (by decide)),sle_refl _⟩
theorem Passed.onto (h:Passed V pre i key after m bh s) (ht:To V s s2):Passed V pre i key after m bh s2:=⟨fun x a b c=>ht.ab x (h.ab x a b c),h.ge⟩
theorem before (hP:Passed V pre i key after m bh s) (hN:NxOK V pre (mT m) bh s (some sl)) (hx:InL pre i x) (ha:abv (K0 pre key) after x=true) (hlt:slt (mT (mkAt x i)) (mT sl.m)=true):V.Ab s x:=by
 cases h:abv (mT m) bh (mT (mkAt x i)) with
 | false=>exact hP.ab x hx ha h
 | true=>exact hN.gap _ h (fun p hp=>by injection hp with hp;rw [← hp];exact hlt) x i hx.pre hx.lt rfl
theorem Passed.none (hP:Passed V pre i key after m bh s) (hN:NxOK V pre (mT m) bh s none):SrOK V pre i key after s none :=
 ⟨fun p hp=>(by cases hp),fun x hx ha _=>by
  cases h:abv (mT m) bh (mT (mkAt x i)) with
  | false=>exact hP.ab x hx ha h
  | true=>exact hN.gap _ h (fun p hp=>by cases hp) x i hx.pre hx.lt rfl⟩
theorem NxOK.ge (hP:Passed V pre i key after m bh s) (hN:NxOK V pre (mT m) bh s (some sl)):sle (mT (mkOf (bl key))) (mT sl.m)=true :=
 sle_trans hP.ge (abv_sle (hN.is sl rfl).1)
theorem abv_true_false {a b:Str} (h:abv a true b=false):b=a∨slt b a=true:=by
 unfold abv at h
 simp only [if_true] at h
 cases h2:slt b a with
 | true=>exact .inr rfl
 | false=>exact .inl (slt_eq h2 h)
theorem plain_other (hV:VsOK V) (hg:V.gone s=false) (hl:l∈V.Y s) (hp:l.pre=pre) (hc:M.cget (content l.Ls) (mT sl.m)=some sl) (hd:sl.deep=false) (hx:InL pre i x) (he:mT (mkAt x i)=mT sl.m) (hne:keyAt x i≠sb sl):V.Ab s x:=by
 obtain ⟨C,hC,hab⟩:=hV.now s hg
 have hs:=hV.sane s hg
 have ho:On (V.Y s) x i l:=⟨hl,by rw [hp];exact hx.pre,hx.lt⟩
 have hcx:M.cget (content l.Ls) (mT (mkAt x i))=some sl:=by rw [he];exact hc
 obtain ⟨e1,hok⟩:=hs.ok.slot hl (mkOf_b _) hcx
 refine hab x ?_
 rw [hC.plain hs.ok ho hcx hd,if_neg]
 intro h
 exact hne ((part_rest hok hd e1).2 h)
theorem plain_pm (hV:VsOK V) (hg:V.gone s=false) (hl:l∈V.Y s) (hp:l.pre=pre) (hc:M.cget (content l.Ls) (mT sl.m)=some sl) (hd:sl.deep=false):PM (V.Y s) (bs (pre++sb sl)) sl.val :=
 ⟨l,hl,(_,sl),((hV.sane s hg).ok.cget hl).1 hc,hd,by rw [bl_bs,hp],rfl⟩
theorem Passed.hit (hV : VsOK V) (hg : V.gone s = false) (hP : Passed V pre i key after m bh s) (hN : NxOK V pre (mT m) bh s (some sl)) (hd : sl.deep = false) (hi : pre.length = 8 * i) (h0 : i = 0 ∨ sb sl ≠ []) (ha : abv (K0 pre key) after (bs (pre ++ sb sl)) = true) :
    SrOK V pre i key after s (some (bs (pre++sb sl),sl.val)):=by
 obtain ⟨h1,l,h2,h3,h4⟩:=hN.is sl rfl
 have hs:=hV.sane s hg
 have hm:mkOf (sb sl)=sl.m:=by
  have:=(hs.ok.key l h2 _ ((hs.ok.cget h2).1 h4)).2;exact mk_sb this hd
 have hin:InL pre i (bs (pre++sb sl)):=by
  refine ⟨by rw [bl_bs,← hi,List.take_left],?_⟩;rcases h0 with h0 | h0
  ·exact .inl h0
  ·right
   rw [bl_bs,List.length_append];have:0 < (sb sl).length:=List.length_pos_iff.2 h0;omega
 refine ⟨fun p hp=>by injection hp with hp;rw [← hp];exact ⟨ha,hin,plain_pm hV hg h2 h3 h4 hd⟩,fun x hx hax hlt=>?_⟩
 have hlt:=hlt _ rfl
 simp only at hlt
 cases hc:slt (mT (mkAt x i)) (mT sl.m) with
 | true=>exact before hP hN hx hax hc
 | false =>
  cases hc2:slt (mT sl.m) (mT (mkAt x i)) with
  | true =>
   have:slt (bs (pre++sb sl)) x=true:=slt_mark (bl_bs _) hx.eq (by rw [hm];exact hc2);rw [slt_asymm this] at hlt
   cases hlt
  | false =>
   refine plain_other hV hg h2 h3 h4 hd hx (slt_eq hc hc2) fun e=>?_
   have:x=bs (pre++sb sl):=bl_inj (hx.eq.trans ((congrArg (pre++·) e).trans (bl_bs _).symm));rw [this,slt_irrefl] at hlt
   cases hlt
theorem Passed.miss (hV : VsOK V) (hg : V.gone s = false) (hP : Passed V pre i key after m bh s) (hN : NxOK V pre (mT m) bh s (some sl)) (hd : sl.deep = false) (ha : abv (K0 pre key) after (bs (pre ++ sb sl)) = false) :
    Passed V pre i key after sl.m true s:=by
 obtain ⟨h1,l,h2,h3,h4⟩:=hN.is sl rfl
 refine ⟨fun x hx hax hb=>?_,NxOK.ge hP hN⟩
 rcases abv_true_false hb with e | hlt
 ·refine plain_other hV hg h2 h3 h4 hd hx e fun e2=>?_
  have:x=bs (pre++sb sl):=bl_inj (hx.eq.trans ((congrArg (pre++·) e2).trans (bl_bs _).symm));rw [this,ha] at hax
  cases hax
 ·exact before hP hN hx hax hlt
theorem deep_in (hV : VsOK V) (hg : V.gone s = false) (_hP : Passed V pre i key after m bh s) (hN : NxOK V pre (mT m) bh s (some sl)) (hd : sl.deep = true) (_hi : pre.length = 8 * i) :
    (∃ l',l'∈V.Y s∧l'.pre=pre++ube 8 sl.m.s∧l'.r=sl.link)∧sl.m.c=9∧(sl.m=mkOf (bl key)→8 < (bl key).length∧pre++ube 8 sl.m.s++(bl key).drop 8=pre++bl key):=by
 obtain ⟨h1,l,h2,h3,h4⟩:=hN.is sl rfl
 have hs:=hV.sane s hg
 have hmem:=(hs.ok.cget h2).1 h4
 have hok:=(hs.ok.key l h2 _ hmem).2
 obtain ⟨l',q1,q2,q3⟩:=hs.ok.down l h2 _ hmem hd
 refine ⟨⟨l',q1,by rw [q2,h3],q3⟩,(hok.dp hd).1,fun e=>?_⟩
 have h9:=(hok.dp hd).1
 simp only at h9
 rw [e] at h9
 have hl:=cls9 h9
 refine ⟨by omega,?_⟩
 rw [e,ube_mk _ (by omega),List.append_assoc,List.take_append_drop]
theorem InL.up (hi:pre.length=8*i) (hx:InL (pre++ube 8 sl.m.s) (i+1) x) (h9:sl.m.c=9) (hok:MkOK sl.m):InL pre i x∧mkAt x i=sl.m:=by
 have hl:8*(i+1) < (bl x).length:=hx.lt.resolve_left (by omega)
 have e:bl x=(pre++ube 8 sl.m.s)++keyAt x (i+1):=hx.eq
 have hp:InL pre i x:=⟨by rw [e,List.append_assoc,← hi,List.take_left],.inr (by omega)⟩
 refine ⟨hp,?_⟩
 have h1:keyAt x i=ube 8 sl.m.s++keyAt x (i+1):=by
  have:=hp.eq;rw [e,List.append_assoc] at this;exact (List.append_cancel_left this).symm
 have hlen:(keyAt x (i+1)).length=(bl x).length - 8*(i+1):=List.length_drop
 have hu:=ube_len 8 sl.m.s
 show mkOf (keyAt x i)=sl.m
 unfold mkOf
 rw [h1,pad_take 8 _ (by rw [List.length_append,hu];omega),List.take_left' hu,List.length_append,hu]
 have hb:be (ube 8 sl.m.s)=sl.m.s:=ube_be_le (by have:=hok.s;simpa using this)
 rw [hb]
 have:min (8+(keyAt x (i+1)).length) 9=9:=by omega
 rw [this,← h9]
theorem InL.below (_hi:pre.length=8*i) (hx:InL pre i x) (he:mT (mkAt x i)=mT sl.m) (h9:sl.m.c=9) (hok:MkOK sl.m):InL (pre++ube 8 sl.m.s) (i+1) x:=by
 have e:mkAt x i=sl.m:=mT_inj (mkOf_b _) hok.b he
 have hc:(mkOf (keyAt x i)).c=9:=by rw [show mkOf (keyAt x i)=sl.m from e];exact h9
 have hl:=cls9 hc
 rw [List.length_drop] at hl
 refine ⟨?_,.inr (by omega)⟩
 rw [← e,ube_mk _ (by rw [List.length_drop];omega),show 8*(i+1)=8*i+8 by omega,List.take_add,← hx.pre]
theorem below_abv (hi : pre.length = 8 * i) (hge : sle (mT (mkOf (bl key))) (mT sl.m) = true) (hok : MkOK sl.m) (h9 : sl.m.c = 9) (hx : InL (pre ++ ube 8 sl.m.s) (i + 1) x) (low : Str) (past : Bool)
    (hm:sl.m=mkOf (bl key)→past=after∧pre++ube 8 sl.m.s++bl low=pre++bl key) (hn:sl.m≠mkOf (bl key)→past=false∧low=s0) :
    abv (K0 (pre++ube 8 sl.m.s) low) past x=abv (K0 pre key) after x:=by
 obtain ⟨hp,e⟩:=hx.up hi h9 hok
 by_cases hh:sl.m=mkOf (bl key)
 ·obtain ⟨a,b⟩:=hm hh
  rw [a];unfold K0;rw [b]
 ·obtain ⟨a,b⟩:=hn hh
  have hlt:slt (mT (mkOf (bl key))) (mT (mkAt x i))=true:=by
   rw [e];rcases sle_or hge with h1 | h1
   ·exact absurd (mT_inj (mkOf_b _) hok.b h1).symm hh
   ·exact h1
  rw [mark_abv hp hlt,a,b];unfold abv;simp only [Bool.false_eq_true,if_false]
  have e1:K0 (pre++ube 8 sl.m.s) s0=bs (pre++ube 8 sl.m.s):=by
   unfold K0;rw [show bl s0=[] from rfl,List.append_nil]
  rw [e1,sle_iff];have hbx:=hx.eq;have:=slt_bl (x:=x) (y:=bs (pre++ube 8 sl.m.s)) (p:=pre++ube 8 sl.m.s) (A:=keyAt x (i+1)) (B:=[]) hbx (by rw [bl_bs,List.append_nil]);rw [this]
  cases keyAt x (i+1) <;> rfl
theorem Passed.sub (hV : VsOK V) (hg : V.gone s = false) (hP : Passed V pre i key after m bh s) (hN : NxOK V pre (mT m) bh s (some sl)) (hd : sl.deep = true) (hi : pre.length = 8 * i) (ht : To V s s2) {low : Str} {past : Bool}
    (hm:sl.m=mkOf (bl key)→past=after∧pre++ube 8 sl.m.s++bl low=pre++bl key) (hn:sl.m≠mkOf (bl key)→past=false∧low=s0) {p:Str×Str} (hS:SrOK V (pre++ube 8 sl.m.s) (i+1) low past s2 (some p)):SrOK V pre i key after s2 (some p):=by
 obtain ⟨-,h9,-⟩:=deep_in hV hg hP hN hd hi
 obtain ⟨h1,l,h2,h3,h4⟩:=hN.is sl rfl
 have hs:=hV.sane s hg
 have hok:=((hs.ok.key l h2 _ ((hs.ok.cget h2).1 h4)).2).m
 have hge:=NxOK.ge hP hN
 obtain ⟨a1,a2,a3⟩:=hS.is p rfl
 rw [below_abv hi hge hok h9 a2 low past hm hn] at a1
 obtain ⟨b1,b2⟩:=a2.up hi h9 hok
 refine ⟨fun q hq=>by injection hq with hq;rw [← hq];exact ⟨a1,b1,a3⟩,fun x hx hax hlt=>?_⟩
 have hlt:=hlt _ rfl
 cases hc:slt (mT (mkAt x i)) (mT sl.m) with
 | true=>exact ht.ab x (before hP hN hx hax hc)
 | false =>
  cases hc2:slt (mT sl.m) (mT (mkAt x i)) with
  | true =>
   have:slt p.1 x=true:=slt_mark b1.eq hx.eq (by rw [show mkOf (keyAt p.1 i)=sl.m from b2];exact hc2);rw [slt_asymm this] at hlt
   cases hlt
  | false =>
   have hxb:=hx.below hi (slt_eq hc hc2) h9 hok;exact hS.gap x hxb (by rw [below_abv hi hge hok h9 hxb low past hm hn];exact hax) (fun q hq=>by injection hq with hq;rw [← hq];exact hlt)
theorem Passed.skip (hV : VsOK V) (hg : V.gone s = false) (hP : Passed V pre i key after m bh s) (hN : NxOK V pre (mT m) bh s (some sl)) (hd : sl.deep = true) (hi : pre.length = 8 * i) (ht : To V s s2) {low : Str} {past : Bool}
    (hm:sl.m=mkOf (bl key)→past=after∧pre++ube 8 sl.m.s++bl low=pre++bl key) (hn:sl.m≠mkOf (bl key)→past=false∧low=s0) (hS:SrOK V (pre++ube 8 sl.m.s) (i+1) low past s2 Option.none):Passed V pre i key after sl.m true s2:=by
 obtain ⟨-,h9,-⟩:=deep_in hV hg hP hN hd hi
 obtain ⟨h1,l,h2,h3,h4⟩:=hN.is sl rfl
 have hs:=hV.sane s hg
 have hok:=((hs.ok.key l h2 _ ((hs.ok.cget h2).1 h4)).2).m
 have hge:=NxOK.ge hP hN
 refine ⟨fun x hx hax hb=>?_,hge⟩
 rcases abv_true_false hb with e | hlt
 ·have hxb:=hx.below hi e h9 hok
  exact hS.gap x hxb (by rw [below_abv hi hge hok h9 hxb low past hm hn];exact hax) (fun q hq=>by cases hq)
 ·exact ht.ab x (before hP hN hx hax hlt)
end
open Go.RowKit
def fK (o:Option (Str×Str)):Str:=match o with | some x=>x.1 | none=>s0
def fX (o:Option (Str×Str)):Str:=match o with | some x=>x.2 | none=>s0
def SrE {σ:Type} (V:Vs σ) (St:σ→World→Prop) (rho:σ→Nat→Nat) (s:σ) (pre:Byt) (i:Nat) (key:Str) (after:Bool) (w:World) (e:Ending) (w':World):Prop :=
 ∃ s',To V s s'∧St s' w'∧Kp (rho s) (rho s') w w' ∧
  ((V.gone s'=true∧e=.returned (.tuple #[.string ⟨#[]⟩,.string ⟨#[]⟩,.bool false,.bool true])) ∨
   (V.gone s'=false∧∃ o,SrOK V pre i key after s' o∧e=.returned (.tuple #[.string (fK o),.string (fX o),.bool o.isSome,.bool false])))
def mval (m:Mk):Nat:=m.s*256+m.c
theorem mval_lt {a b:Mk} (ha:MkOK a) (hb:MkOK b):slt (mT a) (mT b)=true↔mval a < mval b:=by
 rw [← lt_slt ha hb]
 have h1:=ha.b
 have h2:=hb.b
 unfold Mk.lt mval
 simp only [Bool.or_eq_true,Bool.and_eq_true,decide_eq_true_eq]
 omega
def gkm (m:Mk) (bh:Bool):Nat:=2*(5000000000000000000000 - mval m)+(if bh then 0 else 1)
theorem mval_bound {m:Mk} (h:MkOK m):mval m < 5000000000000000000000:=by
 have:=h.b
 unfold mval
 omega
theorem gkm_lt {m m2:Mk} {bh:Bool} (h:MkOK m) (h2:MkOK m2) (ha:abv (mT m) bh (mT m2)=true):gkm m2 true < gkm m bh:=by
 have b1:=mval_bound h
 have b2:=mval_bound h2
 unfold abv at ha
 cases bh with
 | true =>
  simp only [if_true] at ha;have:=(mval_lt h h2).1 ha;unfold gkm;simp only [if_true];omega
 | false =>
  simp only [Bool.false_eq_true,if_false] at ha
  have:¬ mval m2 < mval m:=fun h9=>by
   have:=(mval_lt h2 h).2 h9;rw [sle_iff,this] at ha
   cases ha
  unfold gkm;simp only [if_true,Bool.false_eq_true,if_false];omega
structure SrI {σ:Type} (w:World) (V:Vs σ) (St:σ→World→Prop) (rho:σ→Nat→Nat) (s:σ) (pre:Byt) (i:Nat) (key:Str) (after:Bool) (h:Hd) (HB FB:Nat) (s1:σ) (m:Mk) (bh:Bool) (W:World):Prop where
 tos:To V s s1
 st:St s1 W
 pos:V.gone s1=false→∃ j n A B,Pos V s1 pre j h s0 n A B
 ps:Passed V pre i key after m bh s1
 mok:MkOK m
 kp:Kp (rho s) (rho s1) w W
 hb:W.heap[HB]?=some (.cells #[.int .i64 h.1,.int .u64 h.2] 71)
 fb:W.heap[FB]?=some (.cells #[.int .u64 ((m.s:Nat):Int),.int .u8 ((m.c:Nat):Int),.bool bh] 179)
 ge:w.heap.size≤HB∧w.heap.size≤FB
 r0:rho s1 HB=0∧rho s1 FB=0
 ne:HB≠FB
theorem SrI.onto {σ : Type} {w : World} {V : Vs σ} {St : σ → World → Prop} {rho : σ → Nat → Nat} {s : σ} {pre : Byt} {i : Nat} {key : Str} {after : Bool} {h : Hd} {HB FB : Nat} {s1 s2 : σ} {m : Mk} {bh : Bool} {W W2 : World} (hI : SrI w V St rho s pre i key after h HB FB s1 m bh W) (hTo : To V s1 s2) (hSt : St s2 W2) (hK : Kp (rho s1) (rho s2) W W2) (hs : V.gone s2 = false → SaneY (V.Y s2)) :
    SrI w V St rho s pre i key after h HB FB s2 m bh W2:=by
 obtain ⟨a1,a2⟩:=hK.heap hI.hb hI.r0.1
 obtain ⟨b1,b2⟩:=hK.heap hI.fb hI.r0.2
 refine ⟨hI.tos.trans hTo,hSt,fun g=>?_,hI.ps.onto hTo,hI.mok,hI.kp.trans hK,a1,b1,hI.ge,⟨a2,b2⟩,hI.ne⟩
 obtain ⟨j,n,A,B,hp⟩:=hI.pos (hTo.evo g).1
 obtain ⟨n3,A3,B3,hp3,-⟩:=hp.look hTo g (hs g)
 exact ⟨_,n3,A3,B3,hp3⟩
theorem set3 {w : World} {b : Nat} {a0 a1 a2 : Value} {t : TypeId} (h : w.heap[b]? = some (.cells #[a0, a1, a2] t)) (v0 v1 v2 : Value) :
    (((w.setCell ⟨b,0,none⟩ v0).setCell ⟨b,1,none⟩ v1).setCell ⟨b,2,none⟩ v2).heap[b]?=some (.cells #[v0,v1,v2] t)∧Upd [b] w (((w.setCell ⟨b,0,none⟩ v0).setCell ⟨b,1,none⟩ v1).setCell ⟨b,2,none⟩ v2):=by
 refine ⟨?_,?_⟩
 ·rw [heap_set_same (heap_set_same (heap_set_same h 0 v0) 1 v1) 2 v2]
  rfl
 ·exact (((Upd.refl [b] w).setCell (p:=⟨b,0,none⟩) (by simp) v0).setCell (p:=⟨b,1,none⟩) (by simp) v1).setCell (p:=⟨b,2,none⟩) (by simp) v2
theorem SrI.move {σ : Type} {w0 w : World} {V : Vs σ} {t a : Nat} {vis : Value} {St : σ → World → Prop} {rho : σ → Nat → Nat} {KM : Nat} (R : Rdr w0 V t a vis St rho KM) {s : σ} {pre : Byt} {i : Nat} {key : Str} {after : Bool} {h : Hd} {HB FB : Nat} {s1 : σ} {m m2 : Mk} {bh : Bool} {W : World} (hI : SrI w V St rho s pre i key after h HB FB s1 m bh W) (hw0 : w0.heap.size ≤ w.heap.size) (hm : MkOK m2) (hP : Passed V pre i key after m2 true s1) :
    SrI w V St rho s pre i key after h HB FB s1 m2 true (((W.setCell ⟨FB,0,none⟩ (.int .u64 ((m2.s:Nat):Int))).setCell ⟨FB,1,none⟩ (.int .u8 ((m2.c:Nat):Int))).setCell ⟨FB,2,none⟩ (.bool true)):=by
 obtain ⟨k1,k2⟩:=set3 hI.fb (.int .u64 ((m2.s:Nat):Int)) (.int .u8 ((m2.c:Nat):Int)) (.bool true)
 have hge:=hI.ge
 exact ⟨hI.tos,R.wr s1 W _ [FB] hI.st k2 (fun q hq=>by rw [List.mem_singleton.1 hq];exact ⟨by omega,hI.r0.2⟩),hI.pos,hP,hm,hI.kp.own k2 (fun q hq=>by rw [List.mem_singleton.1 hq];exact hge.2),k2.heap hI.hb (by simpa using hI.ne),k1,hge,hI.r0,hI.ne⟩
theorem box3 {w:World} {b:Nat} {x y z:Value} {t:TypeId} (h:w.heap[b]?=some (.cells #[x,y,z] t)):w.cell? ⟨b,0,none⟩=some x∧w.cell? ⟨b,1,none⟩=some y∧w.cell? ⟨b,2,none⟩=some z∧b < w.heap.size :=
 ⟨by rw [cell_of_heap h];rfl,by rw [cell_of_heap h];rfl,by rw [cell_of_heap h];rfl,heap_lt h⟩
theorem nb_hit {σ:Type} {V:Vs σ} {s:σ} {pre:Byt} {key:Str} {after bh:Bool} {m:Mk} {sl:Sl} (hN:NxOK V pre (mT m) bh s (some sl)) (hV:VsOK V) (hg:V.gone s=false) (hd:sl.deep=false) (hne:sl.m≠mkOf (bl key)) (hge:sle (mT (mkOf (bl key))) (mT sl.m)=true):abv (K0 pre key) after (bs (pre++sb sl))=true:=by
 obtain ⟨h1,l,h2,h3,h4⟩:=hN.is sl rfl
 have hs:=hV.sane s hg
 have hok:=(hs.ok.key l h2 _ ((hs.ok.cget h2).1 h4)).2
 have hm:mkOf (sb sl)=sl.m:=mk_sb hok hd
 have h9:slt (mT (mkOf (bl key))) (mT (mkOf (sb sl)))=true:=by
  rw [hm];rcases sle_or hge with h1 | h1
  ·exact absurd (mT_inj (mkOf_b _) hok.m.b h1).symm hne
  ·exact h1
 have h8:slt (K0 pre key) (bs (pre++sb sl))=true:=slt_mark K0_eq (bl_bs _) h9
 unfold abv
 cases after
 ·exact slt_sle h8
 ·exact h8
structure DL (sl:Sl) (pre:Byt) (key:Str) (after:Bool) (low:Str) (past:Bool):Prop where
 m:sl.m=mkOf (bl key)→past=after∧pre++ube 8 sl.m.s++bl low=pre++bl key
 n:sl.m≠mkOf (bl key)→past=false∧low=s0
theorem three_way (T key:Str):(T.toList=key.toList∧T=key)∨(¬ T.toList=key.toList∧Op.bytesLess T.toList key.toList=true∧slt T key=true)∨(¬ T.toList=key.toList∧¬ Op.bytesLess T.toList key.toList=true∧slt key T=true):=by
 by_cases h:T=key
 ·exact .inl ⟨by rw [h],h⟩
 ·have hn:¬ T.toList=key.toList:=fun e=>h (by rw [ByteArray.toList_eq,ByteArray.toList_eq] at e;exact bl_inj e)
  cases h2:slt T key with
  | true=>exact .inr (.inl ⟨hn,by rw [less_slt];exact h2,rfl⟩)
  | false =>
   refine .inr (.inr ⟨hn,by rw [less_slt,h2];decide,?_⟩)
   cases h3:slt key T with
   | true=>rfl
   | false=>exact absurd (slt_eq h2 h3) h
theorem hit_K0 {pre:Byt} {key T K:Str} (hK:bl K=pre++bl T) (after:Bool) (h:slt key T=true):abv (K0 pre key) after K=true:=by
 have h9:slt (K0 pre key) K=true:=by rw [slt_bl (K0_eq (pre:=pre) (key:=key)) hK];exact h
 unfold abv
 cases after
 ·exact slt_sle h9
 ·exact h9
theorem miss_K0 {pre:Byt} {key T K:Str} (hK:bl K=pre++bl T) (after:Bool) (h:slt T key=true):abv (K0 pre key) after K=false:=by
 have h9:slt K (K0 pre key)=true:=by rw [slt_bl hK (K0_eq (pre:=pre) (key:=key))];exact h
 cases hh:abv (K0 pre key) after K with
 | false=>rfl
 | true =>
  have h8:=abv_sle hh;rw [sle_iff,h9] at h8
  cases h8
theorem same_K0 {pre:Byt} {key T K:Str} (hK:bl K=pre++bl T) (h:T=key) (after:Bool):abv (K0 pre key) after K = !after:=by
 have e:K=K0 pre key:=bl_inj (by rw [hK,h,K0_eq])
 unfold abv
 rw [e]
 cases after
 ·exact sle_refl _
 ·simp only [if_true]
  exact slt_irrefl _
theorem sb_ne {F:List Ly} (h:MOK F) {l:Ly} (hl:l∈F) {x:Str×Sl} (hx:x∈content l.Ls) (hp:l.pre≠[]):sb x.2≠[]:=by
 have hc:=h.cls l hl hp x hx
 intro e
 have:=congrArg List.length e
 unfold sb at this
 rw [List.length_append,List.length_take,ube_len] at this
 simp only [List.length_nil] at this
 omega
set_option maxRecDepth 100000 in
set_option maxHeartbeats 3000000 in
theorem Rdr.search {σ : Type} {w0 : World} {V : Vs σ} {t a : Nat} {vis : Value} {St : σ → World → Prop} {rho : σ → Nat → Nat} {KM : Nat} (R : Rdr w0 V t a vis St rho KM) (hfr : V.free = true) : ∀ (D : Nat) (s : σ) (w : World) (pre : Byt) (i : Nat) (begin key : Str) (after : Bool) (h : Hd),
    (V.gone s=false→1000016≤D+pre.length)→pre.length=8*i→St s w→(V.gone s=false→∃ l,l∈V.Y s∧l.pre=pre∧l.r=h)→bl begin=pre→key.size≤100000000→pre.length≤2000000 →
    Calls Tryz.prog 57 #[.pointer (some ⟨t,0,none⟩),hV h,.string begin,.string key,.bool after,vis] w (SrE V St rho s pre i key after w):=by
 intro D
 induction D using Nat.strongRecOn with
 | _ D IH =>
  intro s w pre i begin key after h hD hi hSt hlay hbeg hks hpl;have hw0:w0.heap.size≤w.heap.size:=(R.ro s w hSt).bel.size;have htl:t < w.heap.size:=block_lt_of_cell (R.tree s w hSt);have hMo:=qh fun W=>mkOf_any key 0 (by omega) (by omega) W
  have hm0:mkAt key 0=mkOf (bl key):=rfl;rw [hm0] at hMo;obtain ⟨m0,hm0e⟩:∃ m,m=mkOf (bl key):=⟨_,rfl⟩;rw [← hm0e] at hMo;have hb0:=(Below.refl w.heap.size w).alloc (Nat.le_refl _) (.cells #[.int .i64 h.1,.int .u64 h.2] 71);have hh0:=heap_alloc_new w (.cells #[.int .i64 h.1,.int .u64 h.2] 71);obtain ⟨W0,hW0⟩:∃ W,W=w.alloc (.cells #[.int .i64 h.1,.int .u64 h.2] 71):=⟨_,rfl⟩;rw [← hW0] at hb0 hh0;unfold mkV at hMo;replace hW0:=qh hW0;replace hb0:=qh hb0;replace hh0:=qh hh0;replace hSt:=qh hSt;replace hlay:=qh hlay;replace hbeg:=qh hbeg;replace hD:=qh hD;replace hi:=qh hi;replace hm0e:=qh hm0e;replace hpl:=qh hpl;replace hw0:=qh hw0;have R:=qh R;have IH:=qh IH;have hfr:=qh hfr;clear hm0
  go_enter Tryz.func57,Tryz.ntmps57
  go_upto_region 1 with fail;rw [← hW0.out];obtain ⟨HB,hHB⟩:∃ b,b=w.heap.size:=⟨_,rfl⟩;rw [← hHB] at hh0 ⊢;replace hHB:=qh hHB;go_wp2_with fail;refine (hMo.out _).mono ?_;rintro e w1 ⟨rfl,hb1⟩
  have hI0:SrI w V St rho s pre i key after h HB w1.heap.size s m0 false (w1.alloc (.cells #[.int .u64 ((m0.s:Nat):Int),.int .u8 ((m0.c:Nat):Int),.bool false] 179)):=by
   have hbx:=(Below.refl w1.heap.size w1).alloc (Nat.le_refl _) (.cells #[.int .u64 ((m0.s:Nat):Int),.int .u8 ((m0.c:Nat):Int),.bool false] 179);have hbb:=hb1.trans (hbx.mono hb1.size);have hb2:=hb0.out.trans (hbb.mono hb0.out.size);have hs1:=hb0.out.size;have hs2:=hb1.size
   have hpos0:V.gone s=false→∃ j n A B,Pos V s pre j h s0 n A B:=fun g=>by
    obtain ⟨l,q1,q2,q3⟩:=hlay.out g;obtain ⟨j,n,hp⟩:=Pos.start (R.out.ok.sane s g) q1;rw [q2,q3] at hp;exact ⟨j,n,[],[],hp⟩
   refine ⟨To.refl V s,R.out.bel hSt.out hb2,fun g=>hpos0 g,by rw [hm0e.out];exact Passed.start s,by rw [hm0e.out];exact mkOf_ok _,Kp.below hb2,Below.heap' hbb hh0.out,heap_alloc_new _ _,⟨Nat.le_of_eq hHB.out.symm,by omega⟩,⟨(R.out.far hSt.out (Nat.le_of_eq hHB.out.symm)).1,(R.out.far hSt.out (by omega)).1⟩,?_⟩;have:=heap_lt hh0.out;omega
  obtain ⟨W1,hW1⟩:∃ W,W=w1.alloc (.cells #[.int .u64 ((m0.s:Nat):Int),.int .u8 ((m0.c:Nat):Int),.bool false] 179):=⟨_,rfl⟩;rw [← hW1] at hI0;replace hW1:=qh hW1;replace hI0:=qh hI0;clear hb1;go_wp2_with fail;rw [← hW1.out];obtain ⟨FB,hFB⟩:∃ b,b=w1.heap.size:=⟨_,rfl⟩;rw [← hFB] at hI0 ⊢;replace hFB:=qh hFB
  go_loopg [17] (gkm m0 false) (fun gk _v17 wr=>∃ s1 m bh,gk=gkm m bh∧SrI w V St rho s pre i key after h HB FB s1 m bh wr)
  case atStart=>exact ⟨s,m0,false,rfl,hI0.out⟩
  case round =>
   obtain ⟨s1,m,bh,rfl,hI⟩:=hrel;clear hI0
   have hps:∃ j n A B,V.gone s1=false→Pos V s1 pre j h s0 n A B:=by
    cases hg:V.gone s1 with
    | true=>exact ⟨0,lf0,[],[],fun h9=>(by cases h9)⟩
    | false =>
     obtain ⟨j,n,A,B,hp⟩:=hI.pos hg;exact ⟨j,n,A,B,fun _=>hp⟩
   obtain ⟨j,n,A,B,hps⟩:=hps;have hE:=R.out.entry hI.mok bh hI.st hps (N:=0) (.inl hfr.out) (.inl hfr.out);obtain ⟨h0,h1,hq,-,-⟩:=box2 hI.hb;have f0:wr.cell? ⟨FB,0,none⟩=some (.int .u64 ((m.s:Nat):Int)):=by rw [cell_of_heap hI.fb];rfl
   have f1:wr.cell? ⟨FB,1,none⟩=some (.int .u8 ((m.c:Nat):Int)):=by rw [cell_of_heap hI.fb];rfl
   have f2:wr.cell? ⟨FB,2,none⟩=some (.bool bh):=by rw [cell_of_heap hI.fb];rfl
   have fq:=heap_lt hI.fb;have htl1:=Nat.lt_of_lt_of_le htl hI.kp.size;unfold hV at hE;replace hE:=qh hE;replace hI:=qh hI;replace hps:=qh hps;go_wp2_with fail;refine hE.out.mono ?_;rintro e w2 ⟨s2,hTo,hSt2,hK,-,hcase⟩;clear h0 h1 hq f0 f1 f2 fq hE;obtain ⟨hh2,rh2⟩:=hK.heap hI.out.hb hI.out.r0.1;obtain ⟨hf2,rf2⟩:=hK.heap hI.out.fb hI.out.r0.2;have hTo2:=hI.out.tos.trans hTo;have hK2:=hI.out.kp.trans hK;rcases hcase with ⟨g1,rfl⟩ | ⟨g1,o,hNx,rfl⟩
   ·have hfin:Hid (∀ W,Below w2.heap.size w2 W→SrE V St rho s pre i key after w (.returned (.tuple #[.string ⟨#[]⟩,.string ⟨#[]⟩,.bool false,.bool true])) W):=qh fun W hW=>⟨s2,hTo2,R.out.bel hSt2 hW,hK2.trans (Kp.below hW),.inl ⟨g1,rfl⟩⟩
    clear hTo hSt2 hK hh2 rh2 hf2 rf2 hTo2 hK2 g1;unfold zSlV;go_wp2_with fail;refine bodyPost_ret (v:=.tuple #[.string ⟨#[]⟩,.string ⟨#[]⟩,.bool false,.bool true]) (by simp [results,Tryz.results57]) rfl (hfin.out _ ((Below.refl _ _).alloc (Nat.le_refl _) _))
   ·cases o with
    | none =>
     have hfin:Hid (∀ W,Below w2.heap.size w2 W→SrE V St rho s pre i key after w (.returned (.tuple #[.string ⟨#[]⟩,.string ⟨#[]⟩,.bool false,.bool false])) W):=qh fun W hW=>⟨s2,hTo2,R.out.bel hSt2 hW,hK2.trans (Kp.below hW),.inr ⟨g1,none,(hI.out.ps.onto hTo).none hNx,rfl⟩⟩
     clear hTo hSt2 hK hh2 rh2 hf2 rf2 hTo2 hK2 g1 hNx;rw [show slV (oSl none)=zSlV from rfl];unfold zSlV;simp only [Option.isSome_none];go_wp2_with fail;refine bodyPost_ret (v:=.tuple #[.string ⟨#[]⟩,.string ⟨#[]⟩,.bool false,.bool false]) (by simp [results,Tryz.results57]) rfl (hfin.out _ ((Below.refl _ _).alloc (Nat.le_refl _) _))
    | some sl =>
     have hs2:=R.out.ok.sane s2 g1;have hP2:=hI.out.ps.onto hTo;obtain ⟨hab,l,q1,q2,q3⟩:=hNx.is sl rfl;have hmem:=(hs2.ok.cget q1).1 q3;have hok:=(hs2.ok.key l q1 _ hmem).2;have hgk:=gkm_lt hI.out.mok hok.m hab;have hpre:=hs2.pre l q1;rw [q2] at hpre;have hrst:=hs2.rst l q1 _ hmem;have hge:=NxOK.ge hP2 hNx;have hnz:pre≠[]→sb sl≠[]:=fun h9=>sb_ne hs2.ok q1 hmem (by rw [q2];exact h9)
     have hc9:sl.m.c≤9:=hok.m.c;simp only at hrst hok;have hI2:=hI.out.onto hTo hSt2 hK (fun _=>hs2);have rs2:=(R.out.far hSt2 (Nat.le_refl _)).1;obtain ⟨⟨⟨S,C⟩,rr,v,d,⟨l1,l2'⟩⟩,hse⟩:∃ x,x=sl:=⟨_,rfl⟩;have hsm:sl.m=⟨S,C⟩:=by rw [← hse]
     have hx:=heap_alloc_new w2 (.cells #[.int .u64 ((S:Nat):Int),.int .u8 ((C:Nat):Int),.string rr,.string v,.bool d,.int .i64 l1,.int .u64 l2'] 92);have hbx:=(Below.refl w2.heap.size w2).alloc (Nat.le_refl _) (.cells #[.int .u64 ((S:Nat):Int),.int .u8 ((C:Nat):Int),.string rr,.string v,.bool d,.int .i64 l1,.int .u64 l2'] 92);obtain ⟨mn,hmn⟩:∃ b,b=decide (S=m0.s∧C=m0.c):=⟨_,rfl⟩
     have hmn2:mn=true↔sl.m=mkOf (bl key):=by
      rw [hmn,← hm0e.out,hsm];simp only [decide_eq_true_eq];constructor
      ·rintro ⟨rfl,rfl⟩;rfl
      ·intro e;rw [← e];exact ⟨rfl,rfl⟩
     have hcmp:Hid (∀ w:World,(if (S:Int)=(m0.s:Int) then if (C:Int)=(m0.c:Int) then Result.ok (Next.value (.bool true)) w else Result.ok (Next.value (.bool false)) w else Result.ok (Next.value (.bool false)) w)=Result.ok (Next.value (.bool mn)) w):=qh fun w=>by
      rw [hmn];by_cases h1:S=m0.s
      ·by_cases h2:C=m0.c
       ·rw [if_pos (by omega),if_pos (by omega),decide_eq_true ⟨h1,h2⟩]
       ·rw [if_pos (by omega),if_neg (by omega),decide_eq_false (fun h=>h2 h.2)]
      ·rw [if_neg (by omega),decide_eq_false (fun h=>h1 h.1)]
     have hc9':C≤9:=by rw [hsm] at hc9;exact hc9
     have hU:=fun W=>kyUnslice_all S C hc9' W
     have hnl:(bs ((ube 8 S).take (min C 8))).size≤8:=by
      have h9:((ube 8 S).take (min C 8)).length≤8:=by rw [List.length_take,ube_len];omega
      rw [← bl_size,bl_bs];exact h9
     have hsbs:sb sl=bl (bs ((ube 8 S).take (min C 8)))++bl rr:=by rw [← hse,bl_bs];rfl
     obtain ⟨nm,hnm⟩:∃ x,x=bs ((ube 8 S).take (min C 8)):=⟨_,rfl⟩;rw [← hnm] at hU hnl hsbs;have hrsz:rr.size≤1000000:=by rw [← hse] at hrst;rw [← bl_size];exact hrst
     have hbsz:begin.size≤1000000:=by rw [← bl_size,hbeg.out];exact hpre
     replace hU:=qh hU;replace hmn:=qh hmn;replace hmn2:=qh hmn2;replace hnm:=qh hnm;replace hsbs:=qh hsbs;replace hsm:=qh hsm;replace hs2:=qh hs2;replace hP2:=qh hP2;replace hNx:=qh hNx;replace hok:=qh hok;replace hgk:=qh hgk;replace hge:=qh hge;replace hnz:=qh hnz;replace hI2:=qh hI2;replace rs2:=qh rs2;replace hx:=qh hx;replace hbx:=qh hbx;replace hpre:=qh hpre;replace hTo:=qh hTo;replace hTo2:=qh hTo2;replace hK2:=qh hK2;replace hSt2:=qh hSt2;replace hh2:=qh hh2;replace hf2:=qh hf2;replace rh2:=qh rh2;replace rf2:=qh rf2;replace g1:=qh g1;clear hab q1 q2 q3 hmem hrst hc9 hK;obtain ⟨W3,hW3⟩:∃ W,W=w2.alloc (.cells #[.int .u64 ((S:Nat):Int),.int .u8 ((C:Nat):Int),.string rr,.string v,.bool d,.int .i64 l1,.int .u64 l2'] 92):=⟨_,rfl⟩;have hse2:=hse;replace hse2:=qh hse2;rw [show oSl (some sl)=sl from rfl,← hse];unfold slV;simp only [Option.isSome_some];clear hse;rw [← hW3] at hx hbx;replace hW3:=qh hW3;go_upto_region 5 with fail;rw [← hW3.out];obtain ⟨SB,hSB⟩:∃ b,b=w2.heap.size:=⟨_,rfl⟩;rw [← hSB] at hx ⊢;rw [← hSB] at rs2;replace hSB:=qh hSB;refine wp_region_held_drew (S:=fun W'=>W'.heap[SB]?=some (.cells #[.int .u64 ((S:Nat):Int),.int .u8 ((C:Nat):Int),.string rr,.string v,.bool d,.int .i64 l1,.int .u64 l2'] 92)) rfl hx.out (fun hHeld=>?_);refine tkL 0 ?_;refine tkL 1 ?_ (hz:=by intro w hSw;(try dsimp only at hSw);obtain ⟨e0,e1,-⟩:=box7 hSw;exact zf)
     refine tkL 2 ?_;refine rdL 3 ?_;intro K hK;go_simp;go_at_call 51;refine (hMo.out _).mono ?_;rintro z w5 ⟨rfl,hb⟩;have hb5:=qh ((Below.refl W3.heap.size W3).drew.trans hb);have hS1:=Below.heap' hb hHeld;clear hb;go_wp2_with fail;refine hK.out _ _ hS1 (fun _=>?_);clear hHeld hK K;have hHeld:=hS1;clear hS1
     try simp only [Act.put,zs1,zs2,zs3]
     refine takeL 4 (by simp only [zg1,zg3,zg2];rfl) hHeld ?_;refine ⟨by kernel_rfl,by kernel_rfl,by kernel_rfl,.bool mn,fun _ _ _ h=>h,Or.inl ⟨by rfl,?_⟩,?_⟩
     ·intro w hSw;clear hSw;go_simp;exact hcmp.out w
     try simp only [Act.put,zs1,zs2,zs3]
     refine tkL 5 ?_;refine wpAnyH_done (by kernel_rfl) ?_ _
     try simp only [Exit.then]
     have hb6:=qh (hbx.out.trans (hb5.out.mono hbx.out.size));obtain ⟨a0,a1,a2,a3,a4,a5,a6,aq⟩:=box7 hHeld;replace hHeld:=qh hHeld;go_wp2_with fail;refine (hU.out _).mono ?_;rintro e w6 ⟨rfl,hb7⟩;have hx6:=Below.heap' hb7 hHeld.out;have hb8:=qh (hb6.out.trans (hb7.mono hb6.out.size));clear a0 a1 a2 a3 a4 a5 a6 aq hb7 hb6 hb5 hHeld hU;obtain ⟨a0,a1,a2,a3,a4,a5,a6,aq⟩:=box7 hx6;replace hx6:=qh hx6;have hno1:¬ 9223372036854775807 < begin.size+nm.size:=by omega
     have hno2:¬ 9223372036854775807 < begin.size+nm.size+rr.size:=by omega
     have hno3:¬ 9223372036854775807 < nm.size+rr.size:=by omega
     have hKey:Hid (begin++nm++rr=bs (pre++sb sl)):=qh (bl_inj (by rw [bl_app,bl_app,hbeg.out,List.append_assoc,← hsbs.out,bl_bs]));have hKT:Hid (bl (bs (pre++sb sl))=pre++bl (nm++rr)):=qh (by rw [bl_bs,hsbs.out,bl_app]);have hi0:Hid (i=0∨sb sl≠[]):=qh (by exact (Nat.eq_zero_or_pos i).imp id (fun h9=>hnz.out (fun e=>by have h8:=hi.out;rw [e] at h8;simp at h8;omega)));have hmk:Hid (MkOK ⟨S,C⟩):=qh (by have h9:=hok.out.m;rw [hsm.out] at h9;exact h9);have hgk9:=hgk.out;rw [hsm.out] at hgk9;replace hgk:=qh hgk9;clear hgk9
     cases d with
     | false =>
      have hdd:Hid (sl.deep=false):=qh (by rw [← hse2.out])
      cases mn with
      | false =>
       have ha:abv (K0 pre key) after (bs (pre++sb sl))=true:=nb_hit hNx.out R.out.ok g1.out hdd.out (fun e=>by have:=hmn2.out.2 e;cases this) hge.out;have hfin:Hid (SrE V St rho s pre i key after w (.returned (.tuple #[.string (begin++nm++rr),.string v,.bool true,.bool false])) w6.drew):=qh ⟨s2,hTo2.out,R.out.bel hSt2.out hb8.out.drew,hK2.out.trans (Kp.below hb8.out.drew),.inr ⟨g1.out,some (bs (pre++sb sl),sl.val),Passed.hit R.out.ok g1.out hP2.out hNx.out hdd.out hi.out hi0.out ha,by rw [hKey.out,← hse2.out];rfl⟩⟩;clear ha;go_upto_region 15 with fail;refine wp_region_held_drew (S:=fun W'=>W'.heap[SB]?=some (.cells #[.int .u64 ((S:Nat):Int),.int .u8 ((C:Nat):Int),.string rr,.string v,.bool false,.int .i64 l1,.int .u64 l2'] 92)) rfl hx6.out (fun hHeld=>?_);refine tkL 0 ?_;refine tkL 1 ?_;refine tkL 2 ?_;refine tkL 3 ?_;refine tkL 4 ?_ (hz:=by intro w hSw;(try dsimp only at hSw);obtain ⟨e0,e1,e2,e3,e4,e5,e6,eq⟩:=box7 hSw;exact zf);refine tkL 5 ?_;refine tkL 6 ?_;refine tkL 7 ?_ (hz:=by intro w hSw;(try dsimp only at hSw);obtain ⟨e0,e1,e2,e3,e4,e5,e6,eq⟩:=box7 hSw;exact zf);refine tkL 8 ?_;refine tkL 9 ?_;refine tkL 10 ?_;refine tkL 11 ?_;refine wpAnyH_done (by kernel_rfl) ?_ _
       try simp only [Exit.then]
       clear hHeld;go_wp2_with fail;refine bodyPost_ret (v:=.tuple #[.string (begin++nm++rr),.string v,.bool true,.bool false]) (by simp [results,Tryz.results57]) rfl hfin.out
      | true =>
       rcases three_way (nm++rr) key with ⟨y1,y2⟩ | ⟨y1,y2,y3⟩ | ⟨y1,y2,y3⟩
       ·replace y2:=qh y2
        cases after with
        | false =>
         have ha:abv (K0 pre key) false (bs (pre++sb sl))=true:=same_K0 hKT.out y2.out false;have hfin:Hid (SrE V St rho s pre i key false w (.returned (.tuple #[.string (begin++nm++rr),.string v,.bool true,.bool false])) w6.drew):=qh ⟨s2,hTo2.out,R.out.bel hSt2.out hb8.out.drew,hK2.out.trans (Kp.below hb8.out.drew),.inr ⟨g1.out,some (bs (pre++sb sl),sl.val),Passed.hit R.out.ok g1.out hP2.out hNx.out hdd.out hi.out hi0.out ha,by rw [hKey.out,← hse2.out];rfl⟩⟩;clear ha;go_upto_region 15 with fail;refine wp_region_held_drew (S:=fun W'=>W'.heap[SB]?=some (.cells #[.int .u64 ((S:Nat):Int),.int .u8 ((C:Nat):Int),.string rr,.string v,.bool false,.int .i64 l1,.int .u64 l2'] 92)) rfl hx6.out (fun hHeld=>?_);refine tkL 0 ?_;refine tkL 1 ?_;refine tkL 2 ?_;refine tkL 3 ?_;refine tkL 4 ?_ (hz:=by intro w hSw;(try dsimp only at hSw);obtain ⟨e0,e1,e2,e3,e4,e5,e6,eq⟩:=box7 hSw;exact zf);refine tkL 5 ?_;refine tkL 6 ?_;refine tkL 7 ?_ (hz:=by intro w hSw;(try dsimp only at hSw);obtain ⟨e0,e1,e2,e3,e4,e5,e6,eq⟩:=box7 hSw;exact zf);refine tkL 8 ?_;refine tkL 9 ?_;refine tkL 10 ?_;refine tkL 11 ?_;refine wpAnyH_done (by kernel_rfl) ?_ _
         try simp only [Exit.then]
         clear hHeld;go_wp2_with fail;refine bodyPost_ret (v:=.tuple #[.string (begin++nm++rr),.string v,.bool true,.bool false]) (by simp [results,Tryz.results57]) rfl hfin.out
        | true =>
         have hm:abv (K0 pre key) true (bs (pre++sb sl))=false:=same_K0 hKT.out y2.out true;have hP3:=Passed.miss R.out.ok g1.out hP2.out hNx.out hdd.out hm;rw [hsm.out] at hP3;have hI6:=hI2.out.onto (To.refl V s2) (R.out.bel hSt2.out hb8.out) (Kp.below hb8.out) (fun _=>hs2.out);obtain ⟨x0,x1,x2,xq⟩:=box3 hI6.fb;have xf:=frozen_of_heap hI6.fb;have hI9:=qh (hI6.move R.out hw0.out hmk.out hP3);clear hm hP3 hI6;go_wp2_with fail;go_roundg (gkm ⟨S,C⟩ true)
         case rel=>exact ⟨s2,⟨S,C⟩,true,rfl,hI9.out⟩
         case measure=>exact hgk.out
       ·replace y3:=qh y3
        have hm:abv (K0 pre key) after (bs (pre++sb sl))=false:=miss_K0 hKT.out after y3.out;have hP3:=Passed.miss R.out.ok g1.out hP2.out hNx.out hdd.out hm;rw [hsm.out] at hP3;have hI6:=hI2.out.onto (To.refl V s2) (R.out.bel hSt2.out hb8.out) (Kp.below hb8.out) (fun _=>hs2.out);obtain ⟨x0,x1,x2,xq⟩:=box3 hI6.fb;have xf:=frozen_of_heap hI6.fb;have hI9:=qh (hI6.move R.out hw0.out hmk.out hP3);clear hm hP3 hI6;go_wp2_with fail;go_roundg (gkm ⟨S,C⟩ true)
        case rel=>exact ⟨s2,⟨S,C⟩,true,rfl,hI9.out⟩
        case measure=>exact hgk.out
       ·replace y3:=qh y3
        have ha:abv (K0 pre key) after (bs (pre++sb sl))=true:=hit_K0 hKT.out after y3.out;have hfin:Hid (SrE V St rho s pre i key after w (.returned (.tuple #[.string (begin++nm++rr),.string v,.bool true,.bool false])) w6.drew):=qh ⟨s2,hTo2.out,R.out.bel hSt2.out hb8.out.drew,hK2.out.trans (Kp.below hb8.out.drew),.inr ⟨g1.out,some (bs (pre++sb sl),sl.val),Passed.hit R.out.ok g1.out hP2.out hNx.out hdd.out hi.out hi0.out ha,by rw [hKey.out,← hse2.out];rfl⟩⟩;clear ha;go_upto_region 15 with fail;refine wp_region_held_drew (S:=fun W'=>W'.heap[SB]?=some (.cells #[.int .u64 ((S:Nat):Int),.int .u8 ((C:Nat):Int),.string rr,.string v,.bool false,.int .i64 l1,.int .u64 l2'] 92)) rfl hx6.out (fun hHeld=>?_);refine tkL 0 ?_;refine tkL 1 ?_;refine tkL 2 ?_;refine tkL 3 ?_;refine tkL 4 ?_ (hz:=by intro w hSw;(try dsimp only at hSw);obtain ⟨e0,e1,e2,e3,e4,e5,e6,eq⟩:=box7 hSw;exact zf);refine tkL 5 ?_;refine tkL 6 ?_;refine tkL 7 ?_ (hz:=by intro w hSw;(try dsimp only at hSw);obtain ⟨e0,e1,e2,e3,e4,e5,e6,eq⟩:=box7 hSw;exact zf);refine tkL 8 ?_;refine tkL 9 ?_;refine tkL 10 ?_;refine tkL 11 ?_;refine wpAnyH_done (by kernel_rfl) ?_ _
        try simp only [Exit.then]
        clear hHeld;go_wp2_with fail;refine bodyPost_ret (v:=.tuple #[.string (begin++nm++rr),.string v,.bool true,.bool false]) (by simp [results,Tryz.results57]) rfl hfin.out
     | true =>
      have hdd:Hid (sl.deep=true):=qh (by rw [← hse2.out]);obtain ⟨hlay2,hc92,hdr⟩:=deep_in R.out.ok g1.out hP2.out hNx.out hdd.out hi.out;rw [hsm.out] at hlay2 hc92;rw [show sl.link=(l1,l2') from by rw [← hse2.out]] at hlay2;have hbn:Hid (bl (begin++nm)=pre++ube 8 S):=qh (by rw [bl_app,hbeg.out,hnm.out,bl_bs,show C=9 from hc92,show min 9 8=8 from rfl,List.take_of_length_le (by rw [ube_len];omega)]);replace hlay2:=qh hlay2;replace hc92:=qh hc92;replace hdr:=qh hdr
      cases mn with
      | false =>
       have hm8:DL sl pre key after (s0) false:=⟨(fun e=>by have:=hmn2.out.2 e;cases this),(fun _=>⟨rfl,rfl⟩)⟩;have hIH:=IH.out (D - 8) (by have:=hD.out (hTo2.out.evo g1.out).1;have:=hpre.out;omega) s2 w6 (pre++ube 8 S) (i+1) (begin++nm) (s0) false (l1,l2') (fun g=>by have:=hD.out (hTo2.out.evo g).1;have:=hpre.out;rw [List.length_append,ube_len];omega) (by have:=hi.out;rw [List.length_append,ube_len];omega) (R.out.bel hSt2.out hb8.out) (fun _=>hlay2.out) hbn.out (by show (0:Nat)≤_;omega) (by have:=hpre.out;rw [List.length_append,ube_len];omega);unfold hV at hIH;replace hIH:=qh hIH;replace hm8:=qh hm8;go_wp2_with fail;refine hIH.out.mono ?_;rintro e w7 ⟨s3,hTo3,hSt3,hK3,hc3⟩;clear a0 a1 a2 a3 a4 a5 a6 aq hIH;obtain ⟨hx7,-⟩:=hK3.heap hx6.out rs2.out;obtain ⟨a0,a1,a2,a3,a4,a5,a6,aq⟩:=box7 hx7;replace hx7:=qh hx7;have hI7:=qh (hI2.out.onto hTo3 hSt3 ((Kp.below hb8.out).trans hK3) (fun g=>R.out.ok.sane s3 g));replace hTo3:=qh hTo3;replace hSt3:=qh hSt3;clear hK3;rcases hc3 with ⟨g3,rfl⟩ | ⟨g3,o3,hS3,rfl⟩
       ·have hfin:Hid (SrE V St rho s pre i key after w (.returned (.tuple #[.string ⟨#[]⟩,.string ⟨#[]⟩,.bool false,.bool true])) w7):=qh ⟨s3,hI7.out.tos,hSt3.out,hI7.out.kp,.inl ⟨g3,rfl⟩⟩
        clear g3;go_wp2_with fail;refine bodyPost_ret (v:=.tuple #[.string ⟨#[]⟩,.string ⟨#[]⟩,.bool false,.bool true]) (by simp [results,Tryz.results57]) rfl hfin.out
       ·cases o3 with
        | some p =>
         have hfin:Hid (SrE V St rho s pre i key after w (.returned (.tuple #[.string p.1,.string p.2,.bool true,.bool false])) w7):=qh ⟨s3,hI7.out.tos,hSt3.out,hI7.out.kp,.inr ⟨g3,some p,Passed.sub R.out.ok g1.out hP2.out hNx.out hdd.out hi.out hTo3.out hm8.out.m hm8.out.n (by rw [hsm.out];exact hS3),rfl⟩⟩;clear g3 hS3;rw [show fK (some p)=p.1 from rfl,show fX (some p)=p.2 from rfl];simp only [Option.isSome_some];go_wp2_with fail;refine bodyPost_ret (v:=.tuple #[.string p.1,.string p.2,.bool true,.bool false]) (by simp [results,Tryz.results57]) rfl hfin.out
        | none =>
         have hP3:=Passed.skip R.out.ok g1.out hP2.out hNx.out hdd.out hi.out hTo3.out hm8.out.m hm8.out.n (by rw [hsm.out];exact hS3);rw [hsm.out] at hP3;obtain ⟨x0,x1,x2,xq⟩:=box3 hI7.out.fb;have xf:=frozen_of_heap hI7.out.fb;have hI9:=qh (hI7.out.move R.out hw0.out hmk.out hP3);clear hP3 g3 hS3;rw [show fK none=⟨#[]⟩ from rfl,show fX none=⟨#[]⟩ from rfl];simp only [Option.isSome_none];go_wp2_with fail;go_roundg (gkm ⟨S,C⟩ true)
         case rel=>exact ⟨s3,⟨S,C⟩,true,rfl,hI9.out⟩
         case measure=>exact hgk.out
      | true =>
       have hk8:8 < key.size:=by rw [← bl_size];exact (hdr.out (hmn2.out.1 rfl)).1
       have hk9:¬ ((key.size:Nat):Int) < 8:=by omega
       have hex:=qh (extract_drop key 8);obtain ⟨LW,hLW⟩:∃ x,x=bs ((bl key).drop 8):=⟨_,rfl⟩;rw [← hLW] at hex;replace hLW:=qh hLW;have hks2:=hks;have hm8:DL sl pre key after (LW) after:=⟨(fun e=>⟨rfl,by rw [hLW.out,bl_bs];exact (hdr.out e).2⟩),(fun e=>absurd (hmn2.out.1 rfl) e)⟩;have hIH:=IH.out (D - 8) (by have:=hD.out (hTo2.out.evo g1.out).1;have:=hpre.out;omega) s2 w6 (pre++ube 8 S) (i+1) (begin++nm) (LW) after (l1,l2') (fun g=>by have:=hD.out (hTo2.out.evo g).1;have:=hpre.out;rw [List.length_append,ube_len];omega) (by have:=hi.out;rw [List.length_append,ube_len];omega) (R.out.bel hSt2.out hb8.out) (fun _=>hlay2.out) hbn.out (by rw [hLW.out,← bl_size,bl_bs,List.length_drop];have:(bl key).length=key.size:=bl_size key;omega) (by have:=hpre.out;rw [List.length_append,ube_len];omega);unfold hV at hIH;replace hIH:=qh hIH;replace hm8:=qh hm8;go_wp2_with fail;rw [hex.out];refine hIH.out.mono ?_;rintro e w7 ⟨s3,hTo3,hSt3,hK3,hc3⟩;clear a0 a1 a2 a3 a4 a5 a6 aq hIH;obtain ⟨hx7,-⟩:=hK3.heap hx6.out rs2.out;obtain ⟨a0,a1,a2,a3,a4,a5,a6,aq⟩:=box7 hx7;replace hx7:=qh hx7;have hI7:=qh (hI2.out.onto hTo3 hSt3 ((Kp.below hb8.out).trans hK3) (fun g=>R.out.ok.sane s3 g));replace hTo3:=qh hTo3;replace hSt3:=qh hSt3;clear hK3;rcases hc3 with ⟨g3,rfl⟩ | ⟨g3,o3,hS3,rfl⟩
       ·have hfin:Hid (SrE V St rho s pre i key after w (.returned (.tuple #[.string ⟨#[]⟩,.string ⟨#[]⟩,.bool false,.bool true])) w7):=qh ⟨s3,hI7.out.tos,hSt3.out,hI7.out.kp,.inl ⟨g3,rfl⟩⟩
        clear g3;go_wp2_with fail;refine bodyPost_ret (v:=.tuple #[.string ⟨#[]⟩,.string ⟨#[]⟩,.bool false,.bool true]) (by simp [results,Tryz.results57]) rfl hfin.out
       ·cases o3 with
        | some p =>
         have hfin:Hid (SrE V St rho s pre i key after w (.returned (.tuple #[.string p.1,.string p.2,.bool true,.bool false])) w7):=qh ⟨s3,hI7.out.tos,hSt3.out,hI7.out.kp,.inr ⟨g3,some p,Passed.sub R.out.ok g1.out hP2.out hNx.out hdd.out hi.out hTo3.out hm8.out.m hm8.out.n (by rw [hsm.out];exact hS3),rfl⟩⟩;clear g3 hS3;rw [show fK (some p)=p.1 from rfl,show fX (some p)=p.2 from rfl];simp only [Option.isSome_some];go_wp2_with fail;refine bodyPost_ret (v:=.tuple #[.string p.1,.string p.2,.bool true,.bool false]) (by simp [results,Tryz.results57]) rfl hfin.out
        | none =>
         have hP3:=Passed.skip R.out.ok g1.out hP2.out hNx.out hdd.out hi.out hTo3.out hm8.out.m hm8.out.n (by rw [hsm.out];exact hS3);rw [hsm.out] at hP3;obtain ⟨x0,x1,x2,xq⟩:=box3 hI7.out.fb;have xf:=frozen_of_heap hI7.out.fb;have hI9:=qh (hI7.out.move R.out hw0.out hmk.out hP3);clear hP3 g3 hS3;rw [show fK none=⟨#[]⟩ from rfl,show fX none=⟨#[]⟩ from rfl];simp only [Option.isSome_none];go_wp2_with fail;go_roundg (gkm ⟨S,C⟩ true)
         case rel=>exact ⟨s3,⟨S,C⟩,true,rfl,hI9.out⟩
         case measure=>exact hgk.out
open Go.RowKit
set_option maxRecDepth 100000 in
set_option maxHeartbeats 2000000 in
theorem Rdr.next {σ : Type} {w0 w : World} {V : Vs σ} {t a : Nat} {vis : Value} {St : σ → World → Prop} {rho : σ → Nat → Nat} {KM : Nat} {s : σ} (R : Rdr w0 V t a vis St rho KM) (hfr : V.free = true) (key : Str) (hk : key.size ≤ 100000000) (after : Bool) (hSt : St s w) :
    Calls Tryz.prog 18 #[.pointer (some ⟨t,0,none⟩),.string key,.bool after,vis] w (SrE V St rho s [] 0 key after w):=by
 have hNo:=qh (none_ok (R.tree s w hSt))
 have htl:t < w.heap.size:=block_lt_of_cell (R.tree s w hSt)
 obtain ⟨r,c2,c3,hr⟩:=R.root s w hSt
 have hS:=R.search hfr 1000016 s w [] 0 s0 key after r (fun _=>by simp) (by simp) hSt (fun g=>by
  obtain ⟨l,F',e1,e2⟩:=hr g;obtain ⟨l2,F2,e3,e4⟩:=on_root (R.ok.sane s g).ok key;rw [e1] at e3;injection e3 with e3 _;subst e3
  exact ⟨l,e4.mem,by rw [e4.pre];rfl,e2⟩) rfl hk (by simp)
 unfold hV at hS
 replace hS:=qh hS
 clear hr
 replace hSt:=qh hSt
 replace R:=qh R
 go_enter Tryz.func18,Tryz.ntmps18
 go_wp2_with fail
 refine hNo.out.mono ?_
 rintro e w1 ⟨rfl,rfl⟩
 go_wp2_with fail
 refine hS.out.mono ?_
 rintro e w2 hE
 have hE2:∃ v0 v1 v2 v3,e=.returned (.tuple #[v0,v1,v2,v3]):=by
  obtain ⟨s',-,-,-,⟨-,rfl⟩ | ⟨-,o,-,rfl⟩⟩:=hE
  ·exact ⟨_,_,_,_,rfl⟩
  ·exact ⟨_,_,_,_,rfl⟩
 obtain ⟨v0,v1,v2,v3,rfl⟩:=hE2
 replace hE:=qh hE
 go_wp2_with fail
 refine bodyPost_ret (v:=.tuple #[v0,v1,v2,v3]) (by simp [results,Tryz.results18]) rfl hE.out
open Go.RowKit
theorem run_equalIn_nil_nilFunc {P : Program} (w : World) (d : Nat) (t : TypeId) {ps rs : Array TypeId} {v : Bool} (h : P.underlying t = some (.func ps rs v)) :
    (Op.equalIn (d+1) t .nilFunc .nilFunc).run P w=.ok true w:=by
 simp [Op.equalIn,run_underlying h]
theorem run_neq_nil_nilFunc {P:Program} (w:World) (t:TypeId) {ps rs:Array TypeId} {v:Bool} (h:P.underlying t=some (.func ps rs v)):(binOp .neq t .nilFunc .nilFunc).run P w=.ok (.bool false) w:=by
 simp only [binOp]
 simp [Op.equal,Op.maxDepth,run_equalIn_nil_nilFunc w 9999 t h]
theorem range_tail {w:World} {b:Nat} {x:Value} {cs:List Value} {t:TypeId} (h:w.heap[b]?=some (.cells (x::cs).toArray t)):w.rangeAt b 1 cs:=fun j v hv=>by
 rw [cell_of_heap h,Nat.add_comm 1 j]
 simpa using hv
def LkN (T:TS) (g:Hd) (w:World) (e:Ending) (w':World):Prop :=
 Below w.heap.size w w'∧((∃ x,x∈T.F∧x.1=g∧e=.returned (.tuple #[.agg x.2.cs.toArray,.bool true]))∨((∀ x,x∈T.F→x.1≠g)∧e=.returned (.tuple #[zMn,.bool false])))
set_option maxRecDepth 100000 in
set_option maxHeartbeats 2000000 in
theorem mtLook_nil {w0 w:World} {T:TS} (h:AM w0 w T) (g:Hd) (hone:∀ x,x∈T.F→x.2.cs.toArray.all (·.oneCell')=true):Calls Tryz.prog 93 #[.pointer (some ⟨T.t,0,none⟩),hV g,.nilFunc] w (LkN T g w):=by
 obtain ⟨-,c1,-,-,-,-,-,hq⟩:=h.cells
 obtain ⟨t,ht⟩:∃ t,t=T.t:=⟨_,rfl⟩
 obtain ⟨A,hA⟩:∃ a,a=T.d.A.a:=⟨_,rfl⟩
 rw [← ht] at c1 hq ⊢
 rw [← hA] at c1
 have hG:(∃ x,x∈T.F∧x.1=g)∨(∀ x,x∈T.F→x.1≠g):=by
  by_cases hx:∃ x,x∈T.F∧x.1=g
  ·exact .inl hx
  ·exact .inr fun x h1 h2=>hx ⟨x,h1,h2⟩
 obtain ⟨hh0,hr0⟩:=heap_two w (.cells #[.int .i64 g.1,.int .u64 g.2] 71) (.cells Tryz.zeroCells100 100)
 have hb0:=below_two w (.cells #[.int .i64 g.1,.int .u64 g.2] 71) (.cells Tryz.zeroCells100 100)
 have hgn:Hid (∀ W,Below w.heap.size w W→(∀ x,x∈T.F→x.1≠g)→Calls Tryz.prog 62 #[.pointer (some ⟨A,0,none⟩),hV g] W fun y W'=>y=.returned (.tuple #[.pointer none,.bool false])∧Below W.heap.size W W'):=qh fun W hW hn=>by rw [hA];exact h.dead hn W hW
 have hgs:Hid (∀ x,x∈T.F→x.1=g→∃ e:AEnt,w.heap[e.blk]?=some (.cells (.int .u64 e.gen::x.2.cs).toArray 192)∧x.2.cs.length=120∧∀ W,Below w.heap.size w W→Calls Tryz.prog 62 #[.pointer (some ⟨A,0,none⟩),hV g] W fun y W'=>y=.returned (.tuple #[.pointer (some ⟨e.blk,1,none⟩),.bool true])∧Below W.heap.size W W'):=qh fun x hx hg=>by
  obtain ⟨e,_,_,_,e4,e5⟩:=h.get hx;rw [hg] at e5;exact ⟨e,e4,(h.ok x hx).len,by rw [hA];exact e5⟩
 obtain ⟨g1,g2⟩:=g
 have hRBw:Hid (w.heap.size≤w.heap.size+1):=qh (by omega)
 replace h:=qh h
 replace hA:=qh hA
 replace ht:=qh ht
 obtain ⟨W0,hW0⟩:∃ W,W=(w.alloc (.cells #[.int .i64 g1,.int .u64 g2] 71)).alloc (.cells Tryz.zeroCells100 100):=⟨_,rfl⟩
 simp only at hh0 hr0 hb0
 rw [← hW0] at hh0 hr0 hb0
 have c1':W0.cell? ⟨t,1,none⟩=some (.pointer (some ⟨A,0,none⟩)):=by rw [World.cell?_of_block (hb0.block t hq)];exact c1
 have hq':=Nat.lt_of_lt_of_le hq hb0.size
 replace hW0:=qh hW0
 replace hb0:=qh hb0
 replace hh0:=qh hh0
 replace hr0:=qh hr0
 replace c1:=qh c1
 unfold hV at hgn hgs ⊢
 simp only at hgn hgs ⊢
 have hnf:∀ W,(binOp .neq 1 .nilFunc .nilFunc).run Tryz.prog W=.ok (.bool false) W:=fun W=>run_neq_nil_nilFunc W 1 Tryz.underlying1
 go_enter Tryz.func93,Tryz.ntmps93
 go_upto_region 3 with fail
 rw [← hW0.out]
 obtain ⟨HB,hHB⟩:∃ b,b=w.heap.size:=⟨_,rfl⟩
 obtain ⟨RB,hRB⟩:∃ b,b=w.heap.size+1:=⟨_,rfl⟩
 replace hRBw:=hRBw.out
 rw [← hRB] at hRBw hr0 ⊢
 replace hRBw:=qh hRBw
 replace hRB:=qh hRB
 have hHBw:Hid (∀ k,k < HB→k < w.heap.size):=qh fun k hk=>by omega
 rw [← hHB] at hh0 ⊢
 replace hHB:=qh hHB
 rcases hG with ⟨x,hx,hxg⟩ | hG
 ·obtain ⟨e,e1,e2,e3⟩:=hgs.out x hx hxg
  have hG:=qh e3;have hone:=qh (hone x hx);have heb:=heap_lt e1;replace e1:=qh e1;replace e2:=qh e2;clear e3 hgs hgn;refine wp_region_held_drew (S:=fun W'=>W'.cell? ⟨t,1,none⟩=some (.pointer (some ⟨A,0,none⟩))∧W'.heap[HB]?=some (.cells #[.int .i64 g1,.int .u64 g2] 71)) rfl ⟨c1',hh0.out⟩ (fun hHeld=>?_);refine tkL 0 ?_;refine tkL 1 ?_;refine tkL 2 ?_;refine tkL 3 ?_ (hz:=by intro w hSw;(try dsimp only at hSw);have hp:=hSw.1;exact zf);refine tkL 4 ?_ (hz:=by intro w hSw;(try dsimp only at hSw);obtain ⟨e0,e1,-⟩:=box2 hSw.2;exact zf);refine rdL 5 ?_;intro K hK;go_simp;go_at_call 62;refine (hG.out _ hb0.out.drew).mono ?_;rintro z w5 ⟨rfl,hb⟩;have hb5:=qh (hb0.out.drew.trans (hb.mono hb0.out.drew.size));have hS1:w5.cell? ⟨t,1,none⟩=some (.pointer (some ⟨A,0,none⟩))∧w5.heap[HB]?=some (.cells #[.int .i64 g1,.int .u64 g2] 71):=⟨by rw [World.cell?_of_block (hb.block t hq')];exact hHeld.1,Below.heap' hb hHeld.2⟩;have hr5:=qh (Below.heap' hb (show W0.drew.heap[RB]?=_ from hr0.out));clear hb;go_wp2_with fail;refine hK.out _ _ hS1 (fun _=>?_);clear hHeld hK K;have hHeld:=hS1;clear hS1
  try simp only [Act.put,zs1,zs2,zs3]
  refine tkL 6 ?_;refine tkL 7 ?_;refine tkL 8 ?_;refine tkL 9 ?_;refine tkL 10 ?_;refine wpAnyH_done (by kernel_rfl) ?_ _
  try simp only [Exit.then]
  clear hHeld;have hrt:=qh (range_tail (Below.heap' hb5.out e1.out));have hrb:=hb_wholeA (vs:=x.2.cs) hr5.out (by rw [zMn_size,e2.out]);have hth:=qh (hb_thereA (n:=(x.2.cs).toArray.size) (o:=0) hr5.out (by rw [zMn_size,List.size_toArray,e2.out];omega));have hld:=qh (run_loadVar_mid (P:=Tryz.prog) _ RB 0 100 (x.2.cs) _ (range_of_heap hrb) Tryz.underlying100 rfl (by rw [e2.out];kernel_rfl));have hfb:Hid (Below w.heap.size w (w5.setCells RB 0 (x.2.cs))):=qh (hb5.out.trans ((hb_upd w5 RB 0 (x.2.cs)).below hb5.out.size (by simp only [List.mem_singleton];rintro k rfl;exact hRBw.out)));clear hrb;have hrl:=heap_lt hr5.out;replace hr5:=qh hr5;have hfin:Hid (LkN T (g1,g2) w (.returned (.tuple #[.agg x.2.cs.toArray,.bool true])) (w5.setCells RB 0 (x.2.cs))):=qh ⟨hfb.out,.inl ⟨x,hx,hxg,rfl⟩⟩;have heb5:=Nat.lt_of_lt_of_le heb hb5.out.size
  go_wp2_with (first
   | refine wpList_load_mid rfl 100 (.tmp 27) rfl e.blk 1 (by rfl) x.2.cs _ hrt.out Tryz.underlying100 rfl (by rw [e2.out];kernel_rfl) ?_
   | refine wpList_store_mid rfl 100 (.tmp 6) (.tmp 28) rfl RB 0 x.2.cs.toArray (by rfl) (by rfl) hth.out (by rw [List.size_toArray,e2.out];kernel_rfl) hone.out ?_)
  refine bodyPost_ret (v:=.tuple #[.agg x.2.cs.toArray,.bool true]) (by simp [results,Tryz.results93,asAddr,hld.out]) rfl hfin.out
 ·obtain ⟨cz,hcz⟩:∃ c,c=Value.bool false::(zlc++zic):=⟨_,rfl⟩
  have hbl:(Tryz.prog).built 100 []=some cz.toArray:=by rw [hcz];kernel_rfl
  have hzl:cz.length=120:=by rw [hcz];exact zMn_len
  have hzo:cz.toArray.all (·.oneCell')=true:=by rw [hcz];exact zMn_one
  have hn:=hG;replace hG:=qh fun W hW=>hgn.out W hW hn
  replace hbl:=qh hbl;replace hzl:=qh hzl;replace hzo:=qh hzo;replace hn:=qh hn;replace hcz:=qh hcz;clear hgs hgn hone;refine wp_region_held_drew (S:=fun W'=>W'.cell? ⟨t,1,none⟩=some (.pointer (some ⟨A,0,none⟩))∧W'.heap[HB]?=some (.cells #[.int .i64 g1,.int .u64 g2] 71)) rfl ⟨c1',hh0.out⟩ (fun hHeld=>?_);refine tkL 0 ?_;refine tkL 1 ?_;refine tkL 2 ?_;refine tkL 3 ?_ (hz:=by intro w hSw;(try dsimp only at hSw);have hp:=hSw.1;exact zf);refine tkL 4 ?_ (hz:=by intro w hSw;(try dsimp only at hSw);obtain ⟨e0,e1,-⟩:=box2 hSw.2;exact zf);refine rdL 5 ?_;intro K hK;go_simp;go_at_call 62;refine (hG.out _ hb0.out.drew).mono ?_;rintro z w5 ⟨rfl,hb⟩;have hb5:=qh (hb0.out.drew.trans (hb.mono hb0.out.drew.size));have hS1:w5.cell? ⟨t,1,none⟩=some (.pointer (some ⟨A,0,none⟩))∧w5.heap[HB]?=some (.cells #[.int .i64 g1,.int .u64 g2] 71):=⟨by rw [World.cell?_of_block (hb.block t hq')];exact hHeld.1,Below.heap' hb hHeld.2⟩;have hr5:=qh (Below.heap' hb (show W0.drew.heap[RB]?=_ from hr0.out));clear hb;go_wp2_with fail;refine hK.out _ _ hS1 (fun _=>?_);clear hHeld hK K;have hHeld:=hS1;clear hS1
  try simp only [Act.put,zs1,zs2,zs3]
  refine tkL 6 ?_;refine tkL 7 ?_;refine tkL 8 ?_;refine tkL 9 ?_;refine tkL 10 ?_;refine wpAnyH_done (by kernel_rfl) ?_ _
  try simp only [Exit.then]
  clear hHeld;have hrb:=hb_wholeA (vs:=cz) hr5.out (by rw [zMn_size,hzl.out]);have hth:=qh (hb_thereA (n:=(cz).toArray.size) (o:=0) hr5.out (by rw [zMn_size,List.size_toArray,hzl.out];omega));have hld:=qh (run_loadVar_mid (P:=Tryz.prog) _ RB 0 100 (cz) _ (range_of_heap hrb) Tryz.underlying100 rfl (by rw [hzl.out];kernel_rfl));have hfb:Hid (Below w.heap.size w (w5.setCells RB 0 (cz))):=qh (hb5.out.trans ((hb_upd w5 RB 0 (cz)).below hb5.out.size (by simp only [List.mem_singleton];rintro k rfl;exact hRBw.out)));clear hrb;have hrl:=heap_lt hr5.out;replace hr5:=qh hr5;have hfin:Hid (LkN T (g1,g2) w (.returned (.tuple #[.agg cz.toArray,.bool false])) (w5.setCells RB 0 cz)):=qh ⟨hfb.out,.inr ⟨hn.out,by rw [hcz.out]⟩⟩
  go_wp2_with (first
   | refine wpList_built rfl 100 #[] rfl [] rfl cz.toArray hbl.out ?_
   | refine wpList_store_mid rfl 100 (.tmp 6) (.tmp 25) rfl RB 0 cz.toArray (by rfl) (by rfl) hth.out (by rw [List.size_toArray,hzl.out];kernel_rfl) hzo.out ?_)
  refine bodyPost_ret (v:=.tuple #[.agg cz.toArray,.bool false]) (by simp [results,Tryz.results93,asAddr,hld.out]) rfl hfin.out
open Go.RowKit
section
variable {w0 w w':World} {T:TS} {S:List Nat} {Y:List Ly} {C:Cont Str}
theorem own_below0 (hb:Below w0.heap.size w0 w) (hu:Upd S w w') (hS:∀ k,k∈S→w0.heap.size≤k):Below w0.heap.size w0 w' :=
 hb.trans ⟨hu.os,hu.tape,hu.output,hu.size,fun k hk=>hu.block k (Nat.lt_of_lt_of_le hk hb.size) (fun hh=>by have:=hS k hh;omega)⟩
theorem Ars.ru00 {P:Nat×Nat×Nat} {gens:List Int} {free:List Bool} {D:List ArD} {ρ ρ':Nat→Nat} (h:Ars w ρ (some P) gens free D) (hu:RU [0] w w' ρ ρ'):Ars w' ρ' (some P) gens free D:=by
 have hn:∀ r,1≤r→r∉[0]:=fun r h1 h2=>by simp at h2;omega
 refine ⟨h.pool.ru hu (hn _ (by omega)) (hn _ (by omega)) (hn _ (by omega)),fun i d hd=>?_⟩
 have:=h.ar i d hd
 exact this.ru hu (hn _ (by omega)) (hn _ (by omega)) (hn _ (by omega)) (fun e he=>(this.th e he).2)
theorem AM.own0 (h:AM w0 w T) (hu:Upd S w w') (hS:∀ q,q∈S→w0.heap.size≤q∧T.ρ q=0):AM w0 w' T:=by
 have hU:RU [0] w w' T.ρ T.ρ:=RU.upd h.bw.ro hu (fun k hk _=>by simp [(hS k hk).2])
 exact ⟨⟨⟨own_below0 h.bw.ro.bel hu fun k hk=>(hS k hk).1,fun k hk=>h.bw.ro.old k hk,hU.far⟩,Ars.ru00 h.bw.ars hU⟩,h.hd,h.ta,h.tc,h.rol,hU.heap h.blk (by rw [h.rol];simp),h.ent,fun x hx=>(h.ok x hx).ru hU (by simp),h.ndf,h.len,h.sep,h.cnt⟩
structure MTr (w0 w:World) (T:TS) (Y:List Ly) (C:Cont Str):Prop where
 am:AM w0 w T
 sane:SaneY Y
 ct:MCt Y C
 ro:∃ l F',Y=l::F'∧l.r=T.r
 fl:(T.F.map fun x=>(x.1,x.2.bn)).Perm (flat Y)
 kd:∀ x,x∈T.F→(∃ f,x.2.k=.leaf f)∨∃ b,x.2.k=.inn b
 ly:T.ly=Y.length
 n:T.n=C.length
def VsS (Y:List Ly) (C:Cont Str):Vs Unit:=⟨fun _=>Y,fun _=>false,fun _=>0,fun _=>0,true,fun _ k=>M.cget C k=none,fun _ _=>True⟩
theorem MTr.mem (h:MTr w0 w T Y C) {z:Hd×BN Sl}:z∈flat Y↔∃ x,x∈T.F∧(x.1,x.2.bn)=z:=by
 rw [← h.fl.mem_iff,List.mem_map]
theorem cget_in {C:Cont Str} {q:Str×Str} (hq:q∈C):M.cget C q.1≠none:=fun hn=>by
 unfold M.cget at hn
 simp only [Option.map_eq_none_iff,List.find?_eq_none] at hn
 have:=hn q hq
 simp at this
theorem SrOK.eq {key:Str} {after:Bool} {o:Option (Str×Str)} (hC:MCt Y C) (hN:SrOK (VsS Y C) [] 0 key after () o):o=M.cnext C key after:=by
 have e0:K0 [] key=key:=bl_inj K0_eq
 have hin:∀ x,InL [] 0 x:=fun x=>⟨rfl,.inl rfl⟩
 have hcn:M.cnext C key after=C.find? fun p=>abv key after p.1:=by
  unfold M.cnext abv;rfl
 rw [hcn]
 obtain ⟨hi,hg⟩:=hN
 rw [e0] at hi hg
 cases hf:C.find? fun p=>abv key after p.1 with
 | none =>
  cases o with
  | none=>rfl
  | some p =>
   obtain ⟨a1,-,a3⟩:=hi p rfl;have a5:=(hC.pm p.1 p.2).2 a3;have:=List.find?_eq_none.1 hf _ a5;rw [a1] at this;simp at this
 | some q =>
  obtain ⟨b1,la,lb,b2,b3⟩:=List.find?_eq_some_iff_append.1 hf;have hq:q∈C:=by rw [b2];simp
  cases o with
  | none=>exact absurd (hg q.1 (hin _) b1 (fun p hp=>by cases hp)) (cget_in hq)
  | some p =>
   obtain ⟨a1,-,a3⟩:=hi p rfl;have a5:p∈C:=(hC.pm p.1 p.2).2 a3;have hs:=hC.srt;unfold CSort at hs;rw [b2] at a5 hs;rcases List.mem_append.1 a5 with h9 | h9
   ·have:=b3 p h9
    rw [a1] at this;simp at this
   ·rcases List.mem_cons.1 h9 with h9 | h9
    ·rw [h9]
    ·have h8:=(List.pairwise_cons.1 (List.pairwise_append.1 hs).2.1).1 p h9
     exact absurd (hg q.1 (hin _) b1 (fun p' hp'=>by injection hp' with hp';rw [← hp'];exact h8)) (cget_in hq)
end
open Go.RowKit
theorem run_equalIn_func_nil {P : Program} (w : World) (d : Nat) (t : TypeId) (c : Fn) (fs cs : Array Value) {ps rs : Array TypeId} {v : Bool} (h : P.underlying t = some (.func ps rs v)) :
    (Op.equalIn (d+1) t (.func c fs cs) .nilFunc).run P w=.ok false w:=by
 simp [Op.equalIn,run_underlying h]
def GetAt {σ:Type} (w0:World) (V:Vs σ) (s:σ) (r:Nat→Nat) (A:Nat) (g:Hd) (w:World):Prop :=
 (V.gone s=false∧∃ (x:ND) (e:AEnt),(g,x.bn)∈flat (V.Y s)∧(∀ W S,Upd S w W→(∀ q,q∈S→w0.heap.size≤q∧r q=0)→Seen W x)∧w.heap[e.blk]?=some (.cells (.int .u64 e.gen::x.cs).toArray 192)∧∀ W,Below w.heap.size w W→Calls Tryz.prog 62 #[.pointer (some ⟨A,0,none⟩),hV g] W fun y W'=>y=.returned (.tuple #[.pointer (some ⟨e.blk,1,none⟩),.bool true])∧Below W.heap.size W W') ∨
 ((V.gone s=true∨∀ n,(g,n)∉flat (V.Y s))∧∀ W,Below w.heap.size w W→Calls Tryz.prog 62 #[.pointer (some ⟨A,0,none⟩),hV g] W fun y W'=>y=.returned (.tuple #[.pointer none,.bool false])∧Below W.heap.size W W')
structure VisM {σ:Type} (w0:World) (V:Vs σ) (t a f:Nat) (fi ca:Array Value) (St:σ→World→Prop) (rho:σ→Nat→Nat) (KM:Nat):Prop where
 ok:VsOK V
 ro:∀ s w,St s w→Ro w0 w (rho s)
 wr:∀ s w w' S,St s w→Upd S w w'→(∀ q,q∈S→w0.heap.size≤q∧rho s q=0)→St s w'
 tree:∀ s w,St s w→w.cell? ⟨t,1,none⟩=some (.pointer (some ⟨a,0,none⟩))
 root:∀ s w,St s w→∃ r:Hd,w.cell? ⟨t,2,none⟩=some (.int .i64 r.1)∧w.cell? ⟨t,3,none⟩=some (.int .u64 r.2)∧(V.gone s=false→∃ l F',V.Y s=l::F'∧l.r=r)
 enter:∀ args w,(callFunc f args).run Tryz.prog w=.ok (.enter f args) w
 call:∀ s w,St s w→(V.free=true∨V.cnt s+1≤KM)→Calls Tryz.prog f (fi++ca) w fun e w'=>e=.returned (.tuple #[])∧∃ s',(To V s s'∧V.lb s s')∧(V.free=true∨V.cnt s'≤V.cnt s+1)∧St s' w'∧Kp (rho s) (rho s') w w'
 get:∀ s w g,St s w→GetAt w0 V s (rho s) a g w
set_option maxRecDepth 100000 in
set_option maxHeartbeats 2000000 in
theorem VisM.look {σ : Type} {w0 w : World} {V : Vs σ} {t A f : Nat} {fi ca : Array Value} {St : σ → World → Prop} {rho : σ → Nat → Nat} {KM : Nat} (H : VisM w0 V t A f fi ca St rho KM) (s : σ) (g : Hd) (hSt : St s w) (hcn : V.free = true ∨ V.cnt s + 1 ≤ KM) :
    Calls Tryz.prog 93 #[.pointer (some ⟨t,0,none⟩),hV g,.func (.func f) fi ca] w (LookE V St rho s g w):=by
 have hen:=H.enter
 have hro:=H.ro s w hSt
 obtain ⟨hh0,hr0⟩:=heap_two w (.cells #[.int .i64 g.1,.int .u64 g.2] 71) (.cells Tryz.zeroCells100 100)
 have hb0:=below_two w (.cells #[.int .i64 g.1,.int .u64 g.2] 71) (.cells Tryz.zeroCells100 100)
 have hnf:∀ W,(binOp .neq 1 (.func (.func f) fi ca) .nilFunc).run Tryz.prog W=.ok (.bool true) W:=fun W=>by
  simp only [binOp];simp [Op.equal,Op.maxDepth,run_equalIn_func_nil W 9999 1 (.func f) fi ca Tryz.underlying1]
 obtain ⟨g1,g2⟩:=g
 simp only at hh0 hr0 hb0
 obtain ⟨Wa,hWa⟩:∃ W,W=(w.alloc (.cells #[.int .i64 g1,.int .u64 g2] 71)).alloc (.cells Tryz.zeroCells100 100):=⟨_,rfl⟩
 rw [← hWa] at hh0 hr0 hb0
 have hSta:St s Wa:=H.wr s w Wa [] hSt (Upd.of_below (S:=[]) hb0) (by simp)
 have hKa:Kp (rho s) (rho s) w Wa:=Kp.below hb0
 have hz0:=hro.far w.heap.size (Nat.le_refl _)
 have hz1:=hro.far (w.heap.size+1) (by omega)
 have hge0:=hro.bel.size
 have hCl:=qh (H.call s Wa hSta hcn)
 have hR:=qh H
 replace hSt:=qh hSt
 replace hSta:=qh hSta
 replace hKa:=qh hKa
 replace hro:=qh hro
 replace hb0:=qh hb0
 replace hh0:=qh hh0
 replace hr0:=qh hr0
 replace hge0:=qh hge0
 clear H
 unfold hV
 simp only
 go_enter Tryz.func93,Tryz.ntmps93
 go_upto_region 2 with fail
 rw [← hWa]
 replace hWa:=qh hWa
 obtain ⟨HB,hHB⟩:∃ b,b=w.heap.size:=⟨_,rfl⟩
 obtain ⟨RB,hRB⟩:∃ b,b=w.heap.size+1:=⟨_,rfl⟩
 rw [← hRB] at hr0 hz1 ⊢
 have hRBw:Hid (w0.heap.size≤RB):=qh (by have:=hge0.out;omega)
 replace hRB:=qh hRB
 rw [← hHB] at hh0 hz0 ⊢
 replace hHB:=qh hHB
 go_wp2_with fail
 refine hCl.out.mono ?_
 clear hCl hen hnf
 rintro e W0 ⟨rfl,s',hTo,hct,hS2,hK2⟩
 obtain ⟨hh2,hhz⟩:=hK2.heap hh0.out hz0
 obtain ⟨hr2,hrz⟩:=hK2.heap hr0.out hz1
 have c1':=hR.out.tree s' W0 hS2
 have hq':=block_lt_of_cell c1'
 have hG:=hR.out.get s' W0 (g1,g2) hS2
 have hrzz:Hid (w0.heap.size≤RB∧rho s' RB=0):=qh ⟨hRBw.out,hrz⟩
 have hfin0 : Hid (∀ W5 cs5 (v : Value) (b : Bool), Below W0.heap.size W0 W5 → ((V.gone s' = true ∧ Ending.returned (.tuple #[v, .bool b]) = .returned (.tuple #[zMn, .bool false])) ∨
     (V.gone s'=false∧((∃ n,((g1,g2),n)∈flat (V.Y s'))→∃ x:ND,Ending.returned (.tuple #[v,.bool b])=.returned (.tuple #[.agg x.cs.toArray,.bool true])∧((g1,g2),x.bn)∈flat (V.Y s')∧∀ W6,Below W0.heap.size W0 W5→Upd [RB] W5 W6→Seen W6 x))) →
     LookE V St rho s (g1,g2) w (.returned (.tuple #[v,.bool b])) (W5.setCells RB 0 cs5)):=qh fun W5 cs5 v b hB5 hc=>by
  have hu:=hb_upd W5 RB 0 cs5;have hS5:St s' W5:=hR.out.wr s' W0 W5 [] hS2 (Upd.of_below (S:=[]) hB5) (by simp);have hS6:St s' (W5.setCells RB 0 cs5):=hR.out.wr s' W5 _ [RB] hS5 hu (fun q hq=>by rw [List.mem_singleton.1 hq];exact ⟨hRBw.out,hrz⟩);have hK5:Kp (rho s) (rho s') w W5:=hKa.out.trans (hK2.trans (Kp.below hB5));have hK6:Kp (rho s) (rho s') w (W5.setCells RB 0 cs5):=hK5.own hu (fun q hq=>by rw [List.mem_singleton.1 hq,hRB.out];omega);refine ⟨s',hTo,hct,hS6,hK6,?_⟩;rcases hc with h | ⟨h1,h2⟩
  ·exact .inl h
  ·refine .inr ⟨h1,fun hn=>?_⟩
   obtain ⟨x,e1,e2,e3⟩:=h2 hn;exact ⟨x,e1,e2,e3 _ hB5 hu⟩
 clear hSt hSta hKa hge0 hh0 hr0 hz0 hz1
 have hb0:=qh (Below.refl W0.heap.size W0)
 have hh0:=qh hh2
 have hr0:=qh hr2
 clear hh2 hr2 hhz hrz hK2 hS2 hTo hct hR hro hWa
 unfold GetAt at hG
 go_upto_region 3 with fail
 rcases hG with ⟨hgn,x,e,hmem,hsn,e1,hgt⟩ | ⟨hno,hgt⟩
 ·have hG:=qh hgt
  have hone:=qh (hsn W0 [] (Upd.refl _ _) (by simp)).one;have e2:=(hsn W0 [] (Upd.refl _ _) (by simp)).len;have heb:=heap_lt e1;replace e1:=qh e1;replace e2:=qh e2;replace hgn:=qh hgn;replace hmem:=qh hmem;replace hsn:=qh hsn;clear hgt;refine wp_region_held_drew (S:=fun W'=>W'.cell? ⟨t,1,none⟩=some (.pointer (some ⟨A,0,none⟩))∧W'.heap[HB]?=some (.cells #[.int .i64 g1,.int .u64 g2] 71)) rfl ⟨c1',hh0.out⟩ (fun hHeld=>?_);refine tkL 0 ?_;refine tkL 1 ?_;refine tkL 2 ?_;refine tkL 3 ?_ (hz:=by intro w hSw;(try dsimp only at hSw);have hp:=hSw.1;exact zf);refine tkL 4 ?_ (hz:=by intro w hSw;(try dsimp only at hSw);obtain ⟨e0,e1,-⟩:=box2 hSw.2;exact zf);refine rdL 5 ?_;intro K hK;go_simp;go_at_call 62;refine (hG.out _ hb0.out.drew).mono ?_;rintro z w5 ⟨rfl,hb⟩;have hb5:=qh (hb0.out.drew.trans (hb.mono hb0.out.drew.size));have hS1:w5.cell? ⟨t,1,none⟩=some (.pointer (some ⟨A,0,none⟩))∧w5.heap[HB]?=some (.cells #[.int .i64 g1,.int .u64 g2] 71):=⟨by rw [World.cell?_of_block (hb.block t hq')];exact hHeld.1,Below.heap' hb hHeld.2⟩;have hr5:=qh (Below.heap' hb (show W0.drew.heap[RB]?=_ from hr0.out));clear hb;go_wp2_with fail;refine hK.out _ _ hS1 (fun _=>?_);clear hHeld hK K;have hHeld:=hS1;clear hS1
  try simp only [Act.put,zs1,zs2,zs3]
  refine tkL 6 ?_;refine tkL 7 ?_;refine tkL 8 ?_;refine tkL 9 ?_;refine tkL 10 ?_;refine wpAnyH_done (by kernel_rfl) ?_ _
  try simp only [Exit.then]
  clear hHeld;have hrt:=qh (range_tail (Below.heap' hb5.out e1.out));have hrb:=hb_wholeA (vs:=x.cs) hr5.out (by rw [zMn_size,e2.out]);have hth:=qh (hb_thereA (n:=(x.cs).toArray.size) (o:=0) hr5.out (by rw [zMn_size,List.size_toArray,e2.out];omega));have hld:=qh (run_loadVar_mid (P:=Tryz.prog) _ RB 0 100 (x.cs) _ (range_of_heap hrb) Tryz.underlying100 rfl (by rw [e2.out];kernel_rfl));clear hrb;have hrl:=heap_lt hr5.out;replace hr5:=qh hr5;have hfin:=qh (hfin0.out w5 x.cs (.agg x.cs.toArray) true hb5.out (.inr ⟨hgn.out,fun _=>⟨x,rfl,hmem.out,fun W6 hB hu=>hsn.out W6 [RB] (((Upd.of_below (S:=[]) hB).mono (by simp)).trans hu) (fun q hq=>by rw [List.mem_singleton.1 hq];exact hrzz.out)⟩⟩));have heb5:=Nat.lt_of_lt_of_le heb hb5.out.size
  go_wp2_with (first
   | refine wpList_load_mid rfl 100 (.tmp 27) rfl e.blk 1 (by rfl) x.cs _ hrt.out Tryz.underlying100 rfl (by rw [e2.out];kernel_rfl) ?_
   | refine wpList_store_mid rfl 100 (.tmp 6) (.tmp 28) rfl RB 0 x.cs.toArray (by rfl) (by rfl) hth.out (by rw [List.size_toArray,e2.out];kernel_rfl) hone.out ?_)
  refine bodyPost_ret (v:=.tuple #[.agg x.cs.toArray,.bool true]) (by simp [results,Tryz.results93,asAddr,hld.out]) rfl hfin.out
 ·obtain ⟨cz,hcz⟩:∃ c,c=Value.bool false::(zlc++zic):=⟨_,rfl⟩
  have hbl:(Tryz.prog).built 100 []=some cz.toArray:=by rw [hcz];kernel_rfl
  have hzl:cz.length=120:=by rw [hcz];exact zMn_len
  have hzo:cz.toArray.all (·.oneCell')=true:=by rw [hcz];exact zMn_one
  have hG:=qh hgt;replace hbl:=qh hbl;replace hzl:=qh hzl;replace hzo:=qh hzo;replace hno:=qh hno;replace hcz:=qh hcz;clear hgt;refine wp_region_held_drew (S:=fun W'=>W'.cell? ⟨t,1,none⟩=some (.pointer (some ⟨A,0,none⟩))∧W'.heap[HB]?=some (.cells #[.int .i64 g1,.int .u64 g2] 71)) rfl ⟨c1',hh0.out⟩ (fun hHeld=>?_);refine tkL 0 ?_;refine tkL 1 ?_;refine tkL 2 ?_;refine tkL 3 ?_ (hz:=by intro w hSw;(try dsimp only at hSw);have hp:=hSw.1;exact zf);refine tkL 4 ?_ (hz:=by intro w hSw;(try dsimp only at hSw);obtain ⟨e0,e1,-⟩:=box2 hSw.2;exact zf);refine rdL 5 ?_;intro K hK;go_simp;go_at_call 62;refine (hG.out _ hb0.out.drew).mono ?_;rintro z w5 ⟨rfl,hb⟩;have hb5:=qh (hb0.out.drew.trans (hb.mono hb0.out.drew.size));have hS1:w5.cell? ⟨t,1,none⟩=some (.pointer (some ⟨A,0,none⟩))∧w5.heap[HB]?=some (.cells #[.int .i64 g1,.int .u64 g2] 71):=⟨by rw [World.cell?_of_block (hb.block t hq')];exact hHeld.1,Below.heap' hb hHeld.2⟩;have hr5:=qh (Below.heap' hb (show W0.drew.heap[RB]?=_ from hr0.out));clear hb;go_wp2_with fail;refine hK.out _ _ hS1 (fun _=>?_);clear hHeld hK K;have hHeld:=hS1;clear hS1
  try simp only [Act.put,zs1,zs2,zs3]
  refine tkL 6 ?_;refine tkL 7 ?_;refine tkL 8 ?_;refine tkL 9 ?_;refine tkL 10 ?_;refine wpAnyH_done (by kernel_rfl) ?_ _
  try simp only [Exit.then]
  clear hHeld;have hrb:=hb_wholeA (vs:=cz) hr5.out (by rw [zMn_size,hzl.out]);have hth:=qh (hb_thereA (n:=(cz).toArray.size) (o:=0) hr5.out (by rw [zMn_size,List.size_toArray,hzl.out];omega));have hld:=qh (run_loadVar_mid (P:=Tryz.prog) _ RB 0 100 (cz) _ (range_of_heap hrb) Tryz.underlying100 rfl (by rw [hzl.out];kernel_rfl));clear hrb;have hrl:=heap_lt hr5.out;replace hr5:=qh hr5
  have hfin:=qh (hfin0.out w5 cz (.agg cz.toArray) false hb5.out (by
   rw [hcz.out]
   cases hgo:V.gone s' with
   | true=>exact .inl ⟨rfl,rfl⟩
   | false =>
    refine .inr ⟨rfl,?_⟩;rintro ⟨n,hn⟩;rcases hno.out with h | h
    ·rw [hgo] at h;cases h
    ·exact absurd hn (h n)))
  go_wp2_with (first
   | refine wpList_built rfl 100 #[] rfl [] rfl cz.toArray hbl.out ?_
   | refine wpList_store_mid rfl 100 (.tmp 6) (.tmp 25) rfl RB 0 cz.toArray (by rfl) (by rfl) hth.out (by rw [List.size_toArray,hzl.out];kernel_rfl) hzo.out ?_)
  refine bodyPost_ret (v:=.tuple #[.agg cz.toArray,.bool false]) (by simp [results,Tryz.results93,asAddr,hld.out]) rfl hfin.out
theorem VisM.rdr {σ:Type} {w0:World} {V:Vs σ} {t A f:Nat} {fi ca:Array Value} {St:σ→World→Prop} {rho:σ→Nat→Nat} {KM:Nat} (H:VisM w0 V t A f fi ca St rho KM):Rdr w0 V t A (.func (.func f) fi ca) St rho KM :=
 ⟨H.ok,H.ro,H.wr,H.tree,H.root,fun s _ g hS hc=>H.look s g hS hc⟩
end Go.Proofs.YtbdealmkmpnpoaaGreat.M
