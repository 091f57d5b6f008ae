import Derived.Stop.RegionWithIn
import Derived.Sort.CutIn
import Derived.Test.YtbdealmkmpnpoaaGreatQk01
import Derived.Test.YtbdealmkmpnpoaaGreatQk02
import Derived.Test.YtbdealmkmpnpoaaGreatQk03
import Derived.Test.YtbdealmkmpnpoaaGreatQk04
set_option linter.all false
namespace Go.Proofs.YtbdealmkmpnpoaaGreat
open Go.RowKit Go.Shelf M
attribute [local go_sem] Oper.semAt_some
theorem fgrown_upd {W W':World} {row:Option Nat} (hg:W.grownBy W' row):Upd row.toList W W':=by
 obtain ⟨a,b,c,d,e⟩:=hg
 exact ⟨a,b,c,d,fun k hk hn=>e k hk (fun h=>hn (by rw [← h];simp))⟩
theorem fnoCells {W:World} {row:Option Nat} (hr:∀ r,row=some r→∃ o:Obj,W.heap[r]?=some o∧o.isCells=false) {q:Nat} {c:Array Value} {t:TypeId} (hq:W.heap[q]?=some (.cells c t)):q∉row.toList:=fun h=>by
 have h':row=some q:=by simpa using h
 obtain ⟨o,h1,h2⟩:=hr q h'
 rw [hq] at h1
 injection h1 with h1
 rw [← h1] at h2
 exact Bool.noConfusion h2
theorem fkeepsFrom {S:List Nat} {n:Nat} {W W':World} (hu:Upd S W W') (hS:∀ q,q∈S→∃ c t,W.heap[q]?=some (.cells c t)):KeepsFrom n W W' :=
 ⟨hu.size,fun k o _ hk ho=>(hu.heap hk fun hq=>by
  obtain ⟨c,t,hc⟩:=hS k hq;rw [hk] at hc;injection hc with hc;rw [hc] at ho
  exact Bool.noConfusion ho)⟩
structure FI (w:World) (LB MB IB BB n2:Nat) (cs:List Value) (m:Mk) (vi vb:Value) (W:World):Prop where
 bel:Below w.heap.size w W
 lb:W.heap[LB]?=some (.cells cs.toArray 95)
 mb:W.heap[MB]?=some (.cells #[.int .u64 ((m.s:Nat):Int),.int .u8 ((m.c:Nat):Int)] 90)
 ib:W.heap[IB]?=some (.cells #[vi] 3)
 bb:W.heap[BB]?=some (.cells #[vb] 4)
 n2:n2≤W.heap.size
section
variable {w W W':World} {LB MB IB BB n2:Nat} {cs:List Value} {m:Mk} {vi vb:Value}
theorem FI.below (h:FI w LB MB IB BB n2 cs m vi vb W) (hb:Below W.heap.size W W'):FI w LB MB IB BB n2 cs m vi vb W' :=
 ⟨h.bel.trans (hb.mono h.bel.size),Below.heap' hb h.lb,Below.heap' hb h.mb,Below.heap' hb h.ib,Below.heap' hb h.bb,Nat.le_trans h.n2 hb.size⟩
theorem FI.grown (h:FI w LB MB IB BB n2 cs m vi vb W) (hn:w.heap.size≤n2) {row:Option Nat} (hg:W.grownBy W' row) (hr:∀ r,row=some r→n2≤r∧∃ o:Obj,W.heap[r]?=some o∧o.isCells=false):FI w LB MB IB BB n2 cs m vi vb W':=by
 have hu:=fgrown_upd hg
 have hr2:=fun r e=>(hr r e).2
 have hge:∀ q,q∈row.toList→w.heap.size≤q:=fun q hq=>Nat.le_trans hn (hr q (by simpa using hq)).1
 exact ⟨h.bel.trans (hu.below h.bel.size hge),hu.heap h.lb (fnoCells hr2 h.lb),hu.heap h.mb (fnoCells hr2 h.mb),hu.heap h.ib (fnoCells hr2 h.ib),hu.heap h.bb (fnoCells hr2 h.bb),Nat.le_trans h.n2 hg.size⟩
end
structure FInv (f:LF) (w:World) (LB MB IB BB n2:Nat) (cs:List Value) (m:Mk) (pre:List { y:Nat // y < f.n }) (W:World):Prop where
 lt:∀ y,y∈pre→(f.slot y.1).m.lt m=true
 fi:FI w LB MB IB BB n2 cs m (.int .i64 0) (.bool false) W
structure FEnd (f:LF) (w:World) (LB MB IB BB n2:Nat) (cs:List Value) (m:Mk) (c:Code) (l:List { y:Nat // y < f.n }) (W:World):Prop where
 c:c=.ret
 ex:∃ pre x b,l=pre++[x]∧(∀ y,y∈pre→(f.slot y.1).m.lt m=true)∧(f.slot x.1).m.lt m=false∧(b=true↔(f.slot x.1).m=m)∧FI w LB MB IB BB n2 cs m (.int .i64 x.1) (.bool b) W
set_option maxRecDepth 100000 in
set_option maxHeartbeats 4000000 in
theorem lfFind_at (f : LF) (h : LFOK f) (m : Mk) (r : Nat) (hr : r ≤ f.n) (hlo : ∀ i, i < r → (f.slot i).m.lt m = true) (hhi : r < f.n → (f.slot r).m.lt m = false) (has : Bool) (hhas : has = true ↔ r < f.n ∧ (f.slot r).m = m) (w : World) :
    Calls Tryz.prog 53 #[lfV f,mkV m] w fun e w'=>e=.returned (.tuple #[.int .i64 r,.bool has])∧Below w.heap.size w w':=by
 have hn:=h.n
 have hl:=lfc_len h.S
 have hRt:=qh fun W=>lfRight_any f h W
 have hLn:=qh fun W=>lfLen_any f h W
 have hLs:=qh fun i W=>mkLess_any (f.slot i).m m W
 have hpw:=h.pw
 have hord:=qh fun i (hi:i < 15)=>(h.ord hi).2
 have hsl:=qh fun (W:World) (b:Nat) (hb:W.heap[b]?=some (.cells (lfc f).toArray 95)) (i:Nat) (hi:i < 15)=>lf_slot hb h hi
 have hS:=h.S
 have hp0:=qh fun (W:World) (b:Nat) (hb:W.heap[b]?=some (.cells (lfc f).toArray 95))=>(lf_heap hb hS).1
 unfold lfV at hRt hLn ⊢
 unfold mkV at hLs ⊢
 obtain ⟨cs,hcs⟩:∃ cs,cs=lfc f:=⟨_,rfl⟩
 rw [← hcs] at hl hRt hLn hsl hp0 ⊢
 replace hcs:=qh hcs
 replace h:=qh h
 have hF0:FI w w.heap.size (w.heap.size+1) (w.heap.size+2) (w.heap.size+3) 0 cs m (.int .i64 0) (.bool false) ((((w.alloc (.cells cs.toArray 95)).alloc (.cells #[.int .u64 ((m.s:Nat):Int),.int .u8 ((m.c:Nat):Int)] 90)).alloc (.cells #[.int .i64 0] 3)).alloc (.cells #[.bool false] 4)):=by
  have s1:(w.alloc (.cells cs.toArray 95)).heap.size=w.heap.size+1:=by simp
  have s2:((w.alloc (.cells cs.toArray 95)).alloc (.cells #[.int .u64 ((m.s:Nat):Int),.int .u8 ((m.c:Nat):Int)] 90)).heap.size=w.heap.size+2:=by simp
  have s3:(((w.alloc (.cells cs.toArray 95)).alloc (.cells #[.int .u64 ((m.s:Nat):Int),.int .u8 ((m.c:Nat):Int)] 90)).alloc (.cells #[.int .i64 0] 3)).heap.size=w.heap.size+3:=by simp
  refine ⟨((((Below.refl w.heap.size w).alloc (Nat.le_refl _) _).alloc (by simp) _).alloc (by simp;omega) _).alloc (by simp;omega) _,?_,?_,?_,?_,Nat.zero_le _⟩
  ·exact heap_alloc_old _ (heap_alloc_old _ (heap_alloc_old _ (heap_alloc_new _ _)))
  ·rw [← s1];exact heap_alloc_old _ (heap_alloc_old _ (heap_alloc_new _ _))
  ·rw [← s2];exact heap_alloc_old _ (heap_alloc_new _ _)
  ·rw [← s3];exact heap_alloc_new _ _
 obtain ⟨W0,hW0⟩:∃ W0,W0=(((w.alloc (.cells cs.toArray 95)).alloc (.cells #[.int .u64 ((m.s:Nat):Int),.int .u8 ((m.c:Nat):Int)] 90)).alloc (.cells #[.int .i64 0] 3)).alloc (.cells #[.bool false] 4):=⟨_,rfl⟩
 rw [← hW0] at hF0
 have hr0:=qh (range_of_heap hF0.lb)
 replace hF0:=qh hF0
 replace hl:=qh hl
 refine (callsIn_wide (n:=6)).1 ?_
 refine callsIn_of_wp_marks Tryz.func53 rfl trivial (wpIn_wide.2 ?_) rfl
 simp only [Tryz.ntmps53,List.size_toArray,List.length_cons,List.length_nil,Nat.reduceAdd,Nat.reduceSub,Array.replicate_succ,Array.replicate_zero,List.push_toArray,List.append_toArray,List.nil_append,List.cons_append]
 go_upto_region 1 with fail
 rw [← hW0]
 replace hW0:=qh hW0
 simp only [show w.heap.size+1+1=w.heap.size+2 from rfl,show w.heap.size+2+1=w.heap.size+3 from rfl]
 obtain ⟨BB,hBB⟩:∃ b,b=w.heap.size+3:=⟨_,rfl⟩
 obtain ⟨IB,hIB⟩:∃ b,b=w.heap.size+2:=⟨_,rfl⟩
 obtain ⟨MB,hMB⟩:∃ b,b=w.heap.size+1:=⟨_,rfl⟩
 obtain ⟨LB,hLB⟩:∃ b,b=w.heap.size:=⟨_,rfl⟩
 rw [← hBB,← hIB,← hMB,← hLB] at hF0 ⊢
 rw [← hLB] at hr0
 have hge:Hid (w.heap.size≤IB∧w.heap.size≤BB):=qh ⟨by omega,by omega⟩
 have hne:Hid (IB≠BB):=qh (by omega)
 have hne4:Hid (LB≠IB∧LB≠BB∧MB≠IB∧MB≠BB∧IB≠LB∧IB≠MB∧BB≠LB∧BB≠MB∧BB≠IB):=qh ⟨by omega,by omega,by omega,by omega,by omega,by omega,by omega,by omega,by omega⟩
 replace hBB:=qh hBB
 replace hIB:=qh hIB
 replace hMB:=qh hMB
 replace hLB:=qh hLB
 go_wp2_with (refine wpList_load_mid rfl 95 (.tmp 2) rfl LB 0 (by rfl) cs _ hr0.out Tryz.underlying95 rfl (by rw [hl.out];kernel_rfl) ?_)
 refine (hRt.out _).mono ?_
 rintro e w1 ⟨rfl,hb1⟩
 have hF1:=hF0.out.below hb1
 have d0:=hp0.out _ _ hF1.lb
 have q0:=heap_lt hF1.lb
 have hAll:=qh fun W=>pmAll_any f.n f.o W
 have hpw0:=qh (fun (b:Nat) (W:World) hb=>pmAll1_stops f.n f.o hpw 5 (by omega) (w:=W) (b:=b) hb)
 obtain ⟨p,hp⟩:∃ p,p=pw f.n f.o:=⟨_,rfl⟩
 rw [← hp] at d0 hAll hpw0
 replace hp:=qh hp
 replace hF1:=qh hF1
 clear hb1 hr0 hF0
 go_wp2_with fail
 refine (hAll.out _).mono ?_
 rintro e w2 ⟨rfl,hw2⟩
 subst hw2
 have hF2:=hF1.out.below ((Below.refl w1.heap.size w1).alloc (Nat.le_refl _) (.cells #[.int .u64 p] 69))
 have hPb:=heap_alloc_new w1 (.cells #[.int .u64 p] 69)
 obtain ⟨PB,hPB⟩:∃ PB,PB=w1.heap.size:=⟨_,rfl⟩
 rw [← hPB] at hPb ⊢
 obtain ⟨w2,hw2⟩:∃ w2,w2=w1.alloc (.cells #[.int .u64 p] 69):=⟨_,rfl⟩
 rw [← hw2] at hF2 hPb ⊢
 have hP1:=heap_lt hPb
 replace hw2:=qh hw2
 replace hPB:=qh hPB
 have hPBlt:=qh hP1
 clear hF1 d0 q0
 go_upto_block 0 with fail
 have hstop:=hpw0.out PB w2 hPb
 have hF3:FI w LB MB IB BB w2.heap.size cs m (.int .i64 0) (.bool false) w2:=⟨hF2.bel,hF2.lb,hF2.mb,hF2.ib,hF2.bb,Nat.le_refl _⟩
 have hw20:=hF2.bel.size
 refine wp_block ?_
 refine (wpIn_wide (n:=6)).1 ?_
 refine wpIn_rangeFunc_ownH (a:=_) (w:=w2) rfl (by omega) (gf:=137) (lb:=#[.pointer (some ⟨PB,0,none⟩)]) rfl trivial (enters_of Tryz.func137 (by kernel_rfl) rfl) hstop KpB.trans (fun W l o o' h1 _ _ _=>World.putObj_heap_other (by omega)) (Below.refl _ _) (fun _=>rfl)
  (FInv f w LB MB IB BB w2.heap.size cs m) (FEnd f w LB MB IB BB w2.heap.size cs m)
  (fun s A B row hs hg hr=>⟨hs.lt,hs.fi.grown hw20 hg hr⟩)
  (fun c s A B row hs hg hr=>⟨hs.c,by obtain ⟨pre,x,b,e2,h1,h2,h3,h4⟩:=hs.ex;exact ⟨pre,x,b,e2,h1,h2,h3,h4.grown hw20 hg hr⟩⟩)
  ⟨fun y hy=>by simp at hy,hF3⟩
  (fun y a' V=>a'={ tmps:=#[.agg cs.toArray,.agg #[.int .u64 ((m.s:Nat):Int),.int .u8 ((m.c:Nat):Int)],.pointer (some ⟨LB,0,none⟩),.pointer (some ⟨MB,0,none⟩),.pointer (some ⟨IB,0,none⟩),.pointer (some ⟨BB,0,none⟩),.int .i64 y.1,.int .i64 ((f.o[y.1]?.getD 0:Nat):Int),.agg cs.toArray,.bool true,.bool false,.pointer (some ⟨LB,0,none⟩),.int .u64 p,.func (.func 137) #[] #[.pointer (some ⟨PB,0,none⟩)],.int .i64 y.1,.int .i64 ((f.o[y.1]?.getD 0:Nat):Int),undef,undef,undef,undef,undef,undef,undef,undef,undef,undef,undef,undef,undef,undef,undef,undef,undef,undef],defers:=[] })
  (fun y a' _ X Y row hs hg hr=>hs)
  ?assign ?body ?done ?stop
 case assign =>
  intro l pre y W K hI hK
  gi_wp2
  exact hK _ _ ((KeepsOthers.refl _).from _) rfl hI rfl
 case body =>
  rintro l pre ⟨y,hy⟩ a' V hl0 ⟨rc,hrc⟩ ⟨hpre,hFV⟩ rfl hlt;have hy15:y < 15:=by omega
  have hj:=hord.out y hy15;have hrg:=hsl.out V LB hFV.lb y hy15;have hLy:=qh (hLs.out y);rw [show f.o.getD y 0=f.o[y]?.getD 0 from rfl] at hj hrg;obtain ⟨j,hje⟩:∃ j,j=f.o[y]?.getD 0:=⟨_,rfl⟩;simp only [← hje] at hj hrg ⊢;replace hje:=qh hje;obtain ⟨s,hse⟩:∃ s,s=f.slot y:=⟨_,rfl⟩;rw [← hse] at hrg hLy;obtain ⟨lt,hlte⟩:∃ b,b=s.m.lt m:=⟨_,rfl⟩;rw [← hlte] at hLy;replace hlte:=qh hlte;replace hse:=qh hse;obtain ⟨⟨S,C⟩,r',v,d,⟨l1,l2⟩⟩:=s;simp only at hLy;have r0:V.cell? ⟨LB,1+j*7,none⟩=some (.int .u64 ((S:Nat):Int)):=hrg 0 _ rfl;have r1:V.cell? ⟨LB,1+j*7+1,none⟩=some (.int .u8 ((C:Nat):Int)):=hrg 1 _ rfl;obtain ⟨m0,m1,mq,-,-⟩:=box2 hFV.mb;have lq:=heap_lt hFV.lb;have hj0:(0:Int)≤(j:Int):=by omega
  have hj15:(j:Int) < 15:=by omega
  replace hFV:=qh hFV;replace hpre:=qh hpre;clear hrg hF2 hF3 hrc hPb hP1 hlt
  gi_upto_region 6 with fail
  gi_cut [23] from 16 (fun v23 wz=>v23=.bool (!lt)∧Below V.heap.size V wz)
  case first =>
   gi_wp2
   gi_region_with (first
    | (refine ⟨trivial,(CallsIn.inRound l (callsIn_wide.2 (hLy.out _))).mono ?_⟩;rintro z V1 ⟨rfl,hbV⟩))
   all_goals
    have hbV2:Below V.heap.size V V1:=((Below.refl _ V).drew).trans (hbV.mono (Nat.le_refl _))
    gi_wp2
    gi_meet
    exact ⟨rfl,hbV2⟩
  case rest =>
   obtain ⟨rfl,hbV2⟩:=hcut;obtain ⟨V1,hV1⟩:∃ x,x=wc:=⟨_,rfl⟩;rw [← hV1] at hbV2 ⊢;clear hV1;have hF4:=hFV.out.below hbV2;have hVn:=hFV.out.n2;have hu:Upd [] V V1:=Upd.of_below hbV2;have hkp:KpB PB V V1:=hu.block PB (Nat.lt_of_lt_of_le hPBlt.out hVn) (by simp);have hkf:KeepsFrom w2.heap.size V V1:=fkeepsFrom hu (by simp)
   cases lt with
   | true =>
    have hfin:Hid (KeepsFrom w2.heap.size V V1∧KpB PB V V1∧FInv f w LB MB IB BB w2.heap.size cs m (pre++[(⟨y,hy⟩:{ y:Nat // y < f.n })]) V1):=qh ⟨hkf,hkp,⟨fun z hz=>by
     rcases List.mem_append.1 hz with h1 | h1
     ·exact hpre.out z h1
     ·rw [List.mem_singleton.1 h1]
      show (f.slot y).m.lt m=true
      rw [← hse.out]
      exact hlte.out.symm,hF4⟩⟩
    clear hF4 hkf hkp hu hbV2
    gi_wp2
    exact hfin.out
   | false =>
    have s0':=keep hbV2 r0;have s1:=keep hbV2 r1;obtain ⟨n0,n1,-,-,-⟩:=box2 hF4.mb;have i0:V1.cell? ⟨IB,0,none⟩=some (.int .i64 0):=by rw [cell_of_heap hF4.ib];rfl
    have b0:V1.cell? ⟨BB,0,none⟩=some (.bool false):=by rw [cell_of_heap hF4.bb];rfl
    have if0:=frozen_of_heap hF4.ib;have bf0:=frozen_of_heap hF4.bb;have lq1:=heap_lt hF4.lb;have mq1:=heap_lt hF4.mb;have iq1:=heap_lt hF4.ib;have bq1:=heap_lt hF4.bb;have hne1:=hne.out;obtain ⟨ne1,ne2,ne3,ne4,ne5,ne6,ne7,ne8,ne9⟩:=hne4.out;replace hF4:=qh hF4;replace hkf:=qh hkf;replace hkp:=qh hkp;replace hu:=qh hu;replace hbV2:=qh hbV2;clear r0 r1 m0 m1 mq lq;obtain ⟨bb,hbb⟩:∃ bb,bb=decide (S=m.s∧C=m.c):=⟨_,rfl⟩
    have hcmp:Hid (∀ w:World,(if (S:Int)=(m.s:Int) then if (C:Int)=(m.c:Int) then Result.ok (Next.value (.bool true)) w else Result.ok (Next.value (.bool false)) w else Result.ok (Next.value (.bool false)) w)=Result.ok (Next.value (.bool bb)) w):=qh fun w=>by
     rw [hbb];by_cases h1:S=m.s
     ·by_cases h2:C=m.c
      ·rw [if_pos (by omega),if_pos (by omega),decide_eq_true ⟨h1,h2⟩]
      ·rw [if_pos (by omega),if_neg (by omega),decide_eq_false (fun h=>h2 h.2)]
     ·rw [if_neg (by omega),decide_eq_false (fun h=>h1 h.1)]
    have hret:Hid (KeepsFrom w2.heap.size V ((V1.setCell ⟨IB,0,none⟩ (.int .i64 y)).setCell ⟨BB,0,none⟩ (.bool bb)).drew∧FEnd f w LB MB IB BB w2.heap.size cs m .ret (pre++[(⟨y,hy⟩:{ y:Nat // y < f.n })]) ((V1.setCell ⟨IB,0,none⟩ (.int .i64 y)).setCell ⟨BB,0,none⟩ (.bool bb)).drew):=qh (by
     have u1:Upd [IB,BB] V1 ((V1.setCell ⟨IB,0,none⟩ (.int .i64 y)).setCell ⟨BB,0,none⟩ (.bool bb)).drew:=(((Upd.refl [IB,BB] V1).setCell (p:=⟨IB,0,none⟩) (by simp) _).setCell (p:=⟨BB,0,none⟩) (by simp) _).drew;have e:=hF4.out;have eV:=hFV.out;refine ⟨fkeepsFrom (S:=[IB,BB]) ((Upd.of_below hbV2.out).trans u1) fun q hq=>?_,rfl,pre,⟨y,hy⟩,bb,rfl,hpre.out,?_,?_,?_⟩
     ·rcases List.mem_cons.1 hq with rfl | hq
      ·exact ⟨_,_,eV.ib⟩
      ·rw [List.mem_singleton.1 hq];exact ⟨_,_,eV.bb⟩
     ·show (f.slot y).m.lt m=false
      rw [← hse.out];exact hlte.out.symm
     ·rw [hbb]
      show decide _=true↔(f.slot y).m=m
      rw [← hse.out,decide_eq_true_iff];constructor
      ·rintro ⟨h1,h2⟩
       obtain ⟨ms,mc⟩:=m;simp only at h1 h2 ⊢;rw [h1,h2]
      ·intro h1
       exact ⟨congrArg Mk.s h1,congrArg Mk.c h1⟩
     ·refine ⟨e.bel.trans (u1.below e.bel.size fun q hq=>?_),u1.heap e.lb (by simp [ne1,ne2]),u1.heap e.mb (by simp [ne3,ne4]),?_,?_,Nat.le_trans e.n2 u1.size⟩
      ·rcases List.mem_cons.1 hq with rfl | hq
       ·exact hge.out.1
       ·rw [List.mem_singleton.1 hq];exact hge.out.2
      ·show ((V1.setCell ⟨IB,0,none⟩ (.int .i64 y)).setCell ⟨BB,0,none⟩ (.bool bb)).heap[IB]?=_
       rw [heap_set_other _ _ (by exact hne1),heap_set_same e.ib 0 _];rfl
      ·show ((V1.setCell ⟨IB,0,none⟩ (.int .i64 y)).setCell ⟨BB,0,none⟩ (.bool bb)).heap[BB]?=_
       rw [heap_set_same (by rw [heap_set_other _ _ (by exact ne9)];exact e.bb) 0 _];rfl)
    replace hbb:=qh hbb;clear hpw0 hAll hLn hRt hsl hp0 hord hLs hLy hlo hhi hhas hstop
    gi_upto_region 7 with fail
    refine wpIn_region_round (F:=Fence.wide) rfl (by kernel_rfl) (by kernel_rfl) ?_;refine wpAnyIn_take (i:=0) (v:=?_) rfl rfl (by kernel_rfl) (by kernel_rfl) (by kernel_rfl) (fun _ _ _ h=>h) ⟨Or.inl ⟨by rfl,?_⟩,fun _=>rfl⟩ ?_
    rotate_left 1
    ·intro w;go_simp;first | done | with_reducible rfl
    refine wpAnyIn_take (i:=1) (v:=?_) rfl rfl (by kernel_rfl) (by kernel_rfl) (by kernel_rfl) (fun _ _ _ h=>h) ⟨Or.inl ⟨by rfl,?_⟩,fun _=>rfl⟩ ?_
    rotate_left 1
    ·intro w;go_simp;first | done | with_reducible rfl
    refine wpAnyIn_take (i:=2) (v:=?_) rfl rfl (by kernel_rfl) (by kernel_rfl) (by kernel_rfl) (fun _ _ _ h=>h) ⟨Or.inl ⟨by rfl,?_⟩,fun _=>rfl⟩ ?_
    rotate_left 1
    ·intro w;go_simp;first | done | with_reducible rfl
    refine wpAnyIn_take (i:=3) (v:=?_) rfl rfl (by kernel_rfl) (by kernel_rfl) (by kernel_rfl) (fun _ _ _ h=>h) ⟨Or.inl ⟨by rfl,?_⟩,fun _=>rfl⟩ ?_
    rotate_left 1
    ·intro w;go_simp;first | done | with_reducible rfl
    refine wpAnyIn_take (i:=4) (v:=?_) rfl rfl (by kernel_rfl) (by kernel_rfl) (by kernel_rfl) (fun _ _ _ h=>h) ⟨Or.inl ⟨by rfl,?_⟩,fun _=>rfl⟩ ?_
    rotate_left 1
    ·intro w;go_simp;first | done | with_reducible rfl
    refine wpAnyIn_ready (rs:=[5,6,8]) (by kernel_rfl) (by simp) ?_;refine AllReadyIn.cons rfl (fun K hK=>?_) (AllReadyIn.cons rfl (fun K hK=>?_) (AllReadyIn.cons rfl (fun K hK=>?_) (AllReadyIn.nil)))
    ·go_simp
     refine hK _ _ ?_;clear hK K;refine wpAnyIn_ready (rs:=[6,8]) (by kernel_rfl) (by simp) ?_;refine AllReadyIn.cons rfl (fun K hK=>?_) (AllReadyIn.cons rfl (fun K hK=>?_) (AllReadyIn.nil))
     ·go_simp
      refine hK _ _ ?_;clear hK K;refine wpAnyIn_take (i:=7) (v:=.bool bb) rfl rfl (by kernel_rfl) (by kernel_rfl) (by kernel_rfl) (fun _ _ _ h=>h) ⟨Or.inl ⟨by rfl,?_⟩,fun _=>rfl⟩ ?_
      ·intro w;go_simp;exact hcmp.out w
      refine wpAnyIn_ready (rs:=[8]) (by kernel_rfl) (by simp) ?_;refine AllReadyIn.cons rfl (fun K hK=>?_) (AllReadyIn.nil)
      ·go_simp
       refine hK _ _ ?_;clear hK K;refine wpAnyIn_ready (rs:=[9]) (by kernel_rfl) (by simp) ?_;refine AllReadyIn.cons rfl (fun K hK=>?_) (AllReadyIn.nil)
       ·go_simp
        refine hK _ _ ?_;clear hK K;refine wpAnyIn_done (by kernel_rfl) ?_ _
        gi_wp2
        exact hret.out
     ·go_simp
      refine hK _ _ ?_;clear hK K;refine wpAnyIn_ready (rs:=[6]) (by kernel_rfl) (by simp) ?_;refine AllReadyIn.cons rfl (fun K hK=>?_) (AllReadyIn.nil)
      ·go_simp
       refine hK _ _ ?_;clear hK K;refine wpAnyIn_take (i:=7) (v:=.bool bb) rfl rfl (by kernel_rfl) (by kernel_rfl) (by kernel_rfl) (fun _ _ _ h=>h) ⟨Or.inl ⟨by rfl,?_⟩,fun _=>rfl⟩ ?_
       ·intro w;go_simp;exact hcmp.out w
       refine wpAnyIn_ready (rs:=[9]) (by kernel_rfl) (by simp) ?_;refine AllReadyIn.cons rfl (fun K hK=>?_) (AllReadyIn.nil)
       ·go_simp
        refine hK _ _ ?_;clear hK K;refine wpAnyIn_done (by kernel_rfl) ?_ _
        gi_wp2
        exact hret.out
    ·go_simp
     refine hK _ _ ?_;clear hK K;refine wpAnyIn_ready (rs:=[5,8]) (by kernel_rfl) (by simp) ?_;refine AllReadyIn.cons rfl (fun K hK=>?_) (AllReadyIn.cons rfl (fun K hK=>?_) (AllReadyIn.nil))
     ·go_simp
      refine hK _ _ ?_;clear hK K;refine wpAnyIn_take (i:=7) (v:=.bool bb) rfl rfl (by kernel_rfl) (by kernel_rfl) (by kernel_rfl) (fun _ _ _ h=>h) ⟨Or.inl ⟨by rfl,?_⟩,fun _=>rfl⟩ ?_
      ·intro w;go_simp;exact hcmp.out w
      refine wpAnyIn_ready (rs:=[8]) (by kernel_rfl) (by simp) ?_;refine AllReadyIn.cons rfl (fun K hK=>?_) (AllReadyIn.nil)
      ·go_simp
       refine hK _ _ ?_;clear hK K;refine wpAnyIn_ready (rs:=[9]) (by kernel_rfl) (by simp) ?_;refine AllReadyIn.cons rfl (fun K hK=>?_) (AllReadyIn.nil)
       ·go_simp
        refine hK _ _ ?_;clear hK K;refine wpAnyIn_done (by kernel_rfl) ?_ _
        gi_wp2
        exact hret.out
     ·go_simp
      refine hK _ _ ?_;clear hK K;refine wpAnyIn_ready (rs:=[5]) (by kernel_rfl) (by simp) ?_;refine AllReadyIn.cons rfl (fun K hK=>?_) (AllReadyIn.nil)
      ·go_simp
       refine hK _ _ ?_;clear hK K;refine wpAnyIn_take (i:=7) (v:=.bool bb) rfl rfl (by kernel_rfl) (by kernel_rfl) (by kernel_rfl) (fun _ _ _ h=>h) ⟨Or.inl ⟨by rfl,?_⟩,fun _=>rfl⟩ ?_
       ·intro w;go_simp;exact hcmp.out w
       refine wpAnyIn_ready (rs:=[9]) (by kernel_rfl) (by simp) ?_;refine AllReadyIn.cons rfl (fun K hK=>?_) (AllReadyIn.nil)
       ·go_simp
        refine hK _ _ ?_;clear hK K;refine wpAnyIn_done (by kernel_rfl) ?_ _
        gi_wp2
        exact hret.out
    ·go_simp
     refine hK _ _ ?_;clear hK K;refine wpAnyIn_ready (rs:=[5,6]) (by kernel_rfl) (by simp) ?_;refine AllReadyIn.cons rfl (fun K hK=>?_) (AllReadyIn.cons rfl (fun K hK=>?_) (AllReadyIn.nil))
     ·go_simp
      refine hK _ _ ?_;clear hK K;refine wpAnyIn_ready (rs:=[6]) (by kernel_rfl) (by simp) ?_;refine AllReadyIn.cons rfl (fun K hK=>?_) (AllReadyIn.nil)
      ·go_simp
       refine hK _ _ ?_;clear hK K;refine wpAnyIn_take (i:=7) (v:=.bool bb) rfl rfl (by kernel_rfl) (by kernel_rfl) (by kernel_rfl) (fun _ _ _ h=>h) ⟨Or.inl ⟨by rfl,?_⟩,fun _=>rfl⟩ ?_
       ·intro w;go_simp;exact hcmp.out w
       refine wpAnyIn_ready (rs:=[9]) (by kernel_rfl) (by simp) ?_;refine AllReadyIn.cons rfl (fun K hK=>?_) (AllReadyIn.nil)
       ·go_simp
        refine hK _ _ ?_;clear hK K;refine wpAnyIn_done (by kernel_rfl) ?_ _
        gi_wp2
        exact hret.out
     ·go_simp
      refine hK _ _ ?_;clear hK K;refine wpAnyIn_ready (rs:=[5]) (by kernel_rfl) (by simp) ?_;refine AllReadyIn.cons rfl (fun K hK=>?_) (AllReadyIn.nil)
      ·go_simp
       refine hK _ _ ?_;clear hK K;refine wpAnyIn_take (i:=7) (v:=.bool bb) rfl rfl (by kernel_rfl) (by kernel_rfl) (by kernel_rfl) (fun _ _ _ h=>h) ⟨Or.inl ⟨by rfl,?_⟩,fun _=>rfl⟩ ?_
       ·intro w;go_simp;exact hcmp.out w
       refine wpAnyIn_ready (rs:=[9]) (by kernel_rfl) (by simp) ?_;refine AllReadyIn.cons rfl (fun K hK=>?_) (AllReadyIn.nil)
       ·go_simp
        refine hK _ _ ?_;clear hK K;refine wpAnyIn_done (by kernel_rfl) ?_ _
        gi_wp2
        exact hret.out
 case done =>
  rintro D xs W6 hD hS hI hK;have hfi:=hI.fi
  have hlt:∀ i,i < f.n→(f.slot i).m.lt m=true:=fun i hi=>by
   have h1:i∈xs.map (·.1):=by rw [hS];exact List.mem_range.2 hi
   obtain ⟨y,hy,rfl⟩:=List.mem_map.1 h1;exact hI.lt y hy
  have hrn:r=f.n:=by
   rcases Nat.lt_or_ge r f.n with h1 | h1
   ·have h2:=hlt r h1
    rw [hhi h1] at h2
    cases h2
   ·omega
  have hh:has=false:=by
   cases has with
   | false=>rfl
   | true=>exact absurd (hhas.1 rfl).1 (by omega)
  clear hlo hhi hhas hr hlt hI hstop hF3 hF2 hPb;subst hrn hh;have hr6:=qh (range_of_heap hfi.lb);have hlq:=heap_lt hfi.lb;replace hfi:=qh hfi;replace hK:=qh hK
  go_wp2_with (refine wpList_load_mid rfl 95 (.tmp 2) rfl LB 0 (by rfl) cs _ hr6.out Tryz.underlying95 rfl (by rw [hl.out];kernel_rfl) ?_)
  refine (hLn.out _).mono ?_;rintro e W7 ⟨rfl,hb7⟩;have hf7:=hfi.out.below hb7;have hK7:=Below.heap' hb7 hK.out;clear hb7;have i0:W7.cell? ⟨IB,0,none⟩=some (.int .i64 0):=by rw [cell_of_heap hf7.ib];rfl
  have b0:W7.cell? ⟨BB,0,none⟩=some (.bool false):=by rw [cell_of_heap hf7.bb];rfl
  have if0:=frozen_of_heap hf7.ib;have bf0:=frozen_of_heap hf7.bb;have iq1:=heap_lt hf7.ib;have bq1:=heap_lt hf7.bb;have hne1:=hne.out;have hdi:D≠IB:=fun e=>by rw [e,hf7.ib] at hK7;cases hK7
  have hdb:D≠BB:=fun e=>by rw [e,hf7.bb] at hK7;cases hK7
  have u1:Upd [IB,BB] W7 ((W7.setCell ⟨IB,0,none⟩ (.int .i64 f.n)).setCell ⟨BB,0,none⟩ (.bool false)):=((Upd.refl [IB,BB] W7).setCell (p:=⟨IB,0,none⟩) (by simp) _).setCell (p:=⟨BB,0,none⟩) (by simp) _;have hK8:=qh (u1.heap hK7 (by simp [hdi,hdb]))
  have h8:Below w.heap.size w ((W7.setCell ⟨IB,0,none⟩ (.int .i64 f.n)).setCell ⟨BB,0,none⟩ (.bool false)):=hf7.bel.trans (u1.below hf7.bel.size fun q hq=>by
   rcases List.mem_cons.1 hq with rfl | hq
   ·exact hge.out.1
   ·rw [List.mem_singleton.1 hq];exact hge.out.2)
  have hfin:Hid (∀ o,Below w.heap.size w (((W7.setCell ⟨IB,0,none⟩ (.int .i64 f.n)).setCell ⟨BB,0,none⟩ (.bool false)).putObj D o)):=qh fun o=>h8.trans (((fgrown_upd (grownBy_putObj' _ D o)).mono (S':=[D]) (by simp)).below h8.size fun q hq=>by rw [List.mem_singleton.1 hq];omega)
  have ci:∀ o,(((W7.setCell ⟨IB,0,none⟩ (.int .i64 f.n)).setCell ⟨BB,0,none⟩ (.bool false)).putObj D o).cell? ⟨IB,0,none⟩=some (.int .i64 f.n):=fun o=>by
   rw [cell_of_heap (c:=#[.int .i64 f.n]) (t:=3) (by rw [World.putObj_heap_other (Ne.symm hdi),heap_set_other _ _ (by exact hne1),heap_set_same hf7.ib 0 _];rfl)];rfl
  have cb:∀ o,(((W7.setCell ⟨IB,0,none⟩ (.int .i64 f.n)).setCell ⟨BB,0,none⟩ (.bool false)).putObj D o).cell? ⟨BB,0,none⟩=some (.bool false):=fun o=>by
   rw [cell_of_heap (c:=#[.bool false]) (t:=4) (by rw [World.putObj_heap_other (Ne.symm hdb),heap_set_same (by rw [heap_set_other _ _ (by exact Ne.symm hne1)];exact hf7.bb) 0 _];rfl)];rfl
  replace hf7:=qh hf7;replace hK7:=qh hK7;replace h8:=qh h8;replace u1:=qh u1;replace ci:=qh ci;replace cb:=qh cb;go_wp2_with fail;refine ⟨by simp,.inl ⟨_,_,rfl,run_takeDeferred hK8.out,?_⟩⟩;refine ⟨.tuple #[.int .i64 f.n,.bool false],?_,rfl,hfin.out _⟩;simp [results,Tryz.results53,go_sem,ci.out,cb.out]
 case stop =>
  rintro D c pre W6 hD hSp hx6 hK;obtain ⟨pre0,x,b,rfl,h1,h2,h3,h4⟩:=hx6.ex;have hc:=hx6.c;subst hc;obtain ⟨t,ht⟩:=hSp
  have hxk:x.1=pre0.length:=by
   have e1:=congrArg (fun l=>l[pre0.length]?) ht;simp only [List.map_append,List.map_cons,List.map_nil] at e1;rw [List.getElem?_append_left (by simp),List.getElem?_append_right (by simp),List.length_map,Nat.sub_self] at e1;have hx2:=x.2;rcases Nat.lt_or_ge pre0.length f.n with h5 | h5
   ·rw [List.getElem?_range h5] at e1
    simpa using e1
   ·have h6:(List.range f.n)[pre0.length]?=none:=List.getElem?_eq_none (by rw [List.length_range];exact h5)
    rw [h6] at e1
    cases e1
  have hlow:∀ i,i < x.1→(f.slot i).m.lt m=true:=fun i hi=>by
   have e1:=congrArg (fun l=>l[i]?) ht;simp only [List.map_append,List.map_cons,List.map_nil] at e1;have hx2:=x.2;rw [List.getElem?_append_left (by simp;omega),List.getElem?_append_left (by simp;omega),List.getElem?_range (by omega),List.getElem?_map] at e1
   cases hg:pre0[i]? with
   | none=>rw [hg] at e1;simp at e1
   | some y =>
    rw [hg] at e1;have h5:=h1 y (List.mem_of_getElem? hg);have h6:y.1=i:=by simpa using e1
    rw [h6] at h5;exact h5
  have hrx:r=x.1:=by
   have hx2:=x.2;rcases Nat.lt_trichotomy r x.1 with h5 | h5 | h5
   ·have h6:=hlow r h5
    rw [hhi (by omega)] at h6
    cases h6
   ·exact h5
   ·have h6:=hlo x.1 h5
    rw [h2] at h6
    cases h6
  have hbh:b=has:=by
   have hx2:=x.2;rw [hrx] at hhas
   cases b with
   | true=>exact (hhas.2 ⟨hx2,h3.1 rfl⟩).symm
   | false =>
    cases has with
    | false=>rfl
    | true=>exact (h3.2 (hhas.1 rfl).2)
  obtain ⟨xv,hxv⟩:=x;simp only at hrx h4;clear hlo hhi hhas hr h1 h2 h3 hlow ht hxk hx6 hstop hF3 hF2 hPb;subst hrx hbh;have hdi:D≠IB:=fun e=>by rw [e,h4.ib] at hK;cases hK
  have hdb:D≠BB:=fun e=>by rw [e,h4.bb] at hK;cases hK
  have hfin:Hid (∀ o,Below w.heap.size w (W6.putObj D o)):=qh fun o=>h4.bel.trans (((fgrown_upd (grownBy_putObj' _ D o)).mono (S':=[D]) (by simp)).below h4.bel.size fun q hq=>by rw [List.mem_singleton.1 hq];omega)
  have ci:∀ o,(W6.putObj D o).cell? ⟨IB,0,none⟩=some (.int .i64 r):=fun o=>by
   rw [cell_of_heap (c:=#[.int .i64 r]) (t:=3) (by rw [World.putObj_heap_other (Ne.symm hdi)];exact h4.ib)];rfl
  have cb:∀ o,(W6.putObj D o).cell? ⟨BB,0,none⟩=some (.bool b):=fun o=>by
   rw [cell_of_heap (c:=#[.bool b]) (t:=4) (by rw [World.putObj_heap_other (Ne.symm hdb)];exact h4.bb)];rfl
  replace h4:=qh h4;replace hK:=qh hK;replace ci:=qh ci;replace cb:=qh cb
  gi_wp2
  refine ⟨by simp,.inl ⟨_,_,rfl,run_takeDeferred hK.out,?_⟩⟩;refine ⟨.tuple #[.int .i64 r,.bool b],?_,rfl,hfin.out _⟩;simp [results,Tryz.results53,go_sem,ci.out,cb.out]
theorem lfFind_any (f : LF) (h : LFOK f) (m : Mk) (hm : MkOK m) (w : World) :
    Calls Tryz.prog 53 #[lfV f,mkV m] w fun e w'=>e=.returned (.tuple #[.int .i64 (M.cut (mT m) f.bn.keys),.bool (M.hasK (mT m) f.bn.keys)])∧Below w.heap.size w w':=by
 have hk:=h.klen
 have hcl:M.cut (mT m) f.bn.keys≤f.n:=by
  rw [← hk];exact M.cut_le _ _
 refine lfFind_at f h m (M.cut (mT m) f.bn.keys) hcl (fun i hi=>?_) (fun hlt=>?_) _ (h.has hm) w
 ·rw [lt_slt (h.sok (by omega)).m hm]
  exact M.cut_lt hi (h.kget (by omega))
 ·rw [lt_slt (h.sok hlt).m hm]
  exact M.cut_at (h.kget hlt)
open Go.RowKit M
namespace M
def newLF:LF:=⟨0,List.range 15,List.replicate 15 zeroSl,⟨0,0⟩,false,(0,0)⟩
theorem newLF_ok:LFOK newLF where
 n:=by decide
 o:=⟨by decide,by decide,by decide⟩
 S:=by decide
 free:=fun r _ hr=>by
  unfold LF.slot newLF;simp only;rw [List.getD_eq_getElem?_getD,List.getElem?_replicate];split <;> rfl
 ok:=fun s hs=>by simp [LF.row,newLF] at hs
 rise:=by simp [LF.row,newLF]
 cov:=fun s hs=>by simp [LF.row,newLF] at hs
 hi:=by simp [newLF]
end M
set_option maxRecDepth 100000 in
theorem lfNew_any (w:World):Calls Tryz.prog 91 #[] w fun e w'=>e=.returned (lfV newLF)∧Below w.heap.size w w':=by
 have hE:=qh fun W=>pmEmpty_any W
 obtain ⟨p,hp⟩:∃ p,p=pw 0 (List.range 15):=⟨_,rfl⟩
 rw [← hp] at hE
 have hbd:(Tryz.zeroCells95).setIfInBounds 0 (.int .u64 ((p:Nat):Int))=(lfc newLF).toArray:=by
  rw [hp]
  kernel_rfl
 replace hp:=qh hp
 have hl:=lfc_len newLF_ok.S
 unfold lfV
 obtain ⟨cs,hcs⟩:∃ cs,cs=lfc newLF:=⟨_,rfl⟩
 rw [← hcs] at hbd hl ⊢
 have hone:cs.toArray.all (·.oneCell')=true:=by rw [hcs];kernel_rfl
 replace hcs:=qh hcs
 go_enter Tryz.func91,Tryz.ntmps91
 have hx:=heap_alloc_new w (.cells Tryz.zeroCells95 95)
 have hB:=qh ((Below.refl w.heap.size w).alloc (Nat.le_refl _) (.cells Tryz.zeroCells95 95))
 go_upto_region 1 with fail
 obtain ⟨w1,hw1⟩:∃ x,x=w.alloc (.cells Tryz.zeroCells95 95):=⟨_,rfl⟩
 rw [← hw1] at hx hB ⊢
 replace hw1:=qh hw1
 have hth:w1.there w.heap.size 0 cs.toArray.size:=fun j hj=>by
  rw [Nat.zero_add];have hz:(Tryz.zeroCells95).size=111:=by kernel_rfl
  simp only [List.size_toArray,hl] at hj;refine ⟨?_,frozen_of_heap hx j⟩;rw [cell_of_heap hx,Array.getElem?_eq_getElem (by omega)];rfl
 have hth':=hth
 have hrs:=World.rangeAt_setCells_same w1 w.heap.size 0 cs (by simpa using hth')
 replace hth:=qh hth
 replace hone:=qh hone
 clear hth'
 have hfin:Hid (Below w.heap.size w (w1.setCells w.heap.size 0 cs)):=qh (hB.out.trans ((Upd.setCells (S:=[w.heap.size]) (b:=w.heap.size) (by simp) cs 0 (Upd.refl _ w1)).below hB.out.size (by simp)))
 replace hx:=qh hx
 replace hrs:=qh hrs
 replace hl:=qh hl
 go_wp2_with fail
 refine (hE.out _).mono ?_
 rintro e w2 ⟨rfl,rfl⟩
 go_wp2_with (refine wpList_store_mid rfl 95 (.tmp 0) (.tmp 2) rfl w.heap.size 0 cs.toArray (by rfl) (by rfl) hth.out (by rw [List.size_toArray,hl.out];kernel_rfl) hone.out ?_)
 have hld:=run_loadVar_mid (P:=Tryz.prog) (w1.setCells w.heap.size 0 cs) w.heap.size 0 95 cs _ hrs.out Tryz.underlying95 rfl (by rw [hl.out];kernel_rfl)
 simp only [Act.put]
 refine bodyPost_ret (v:=.agg cs.toArray) (by simp [results,Tryz.results91,asAddr,hld]) rfl ⟨rfl,hfin.out⟩
open Go.RowKit M
theorem hb_there {w:World} {b o n:Nat} {cs:List Value} {t:TypeId} (h:w.heap[b]?=some (.cells cs.toArray t)) (hn:o+n≤cs.length):w.there b o n:=fun j hj=>by
 refine ⟨?_,frozen_of_heap h _⟩
 rw [cell_of_heap h,Array.getElem?_eq_getElem (by rw [List.size_toArray];omega)]
 rfl
theorem hb_set {w : World} {b o : Nat} {cs : List Value} {t : TypeId} (h : w.heap[b]? = some (.cells cs.toArray t)) (vs : List Value) (hn : o + vs.length ≤ cs.length) :
    (w.setCells b o vs).heap[b]?=some (.cells (cs.take o++vs++cs.drop (o+vs.length)).toArray t):=heap_setCells vs o cs.toArray w h (by rw [List.size_toArray];exact hn)
theorem hb_thereA {w:World} {b o n:Nat} {c:Array Value} {t:TypeId} (h:w.heap[b]?=some (.cells c t)) (hn:o+n≤c.size):w.there b o n:=fun j hj=>by
 refine ⟨?_,frozen_of_heap h _⟩
 rw [cell_of_heap h,Array.getElem?_eq_getElem (by omega)]
 rfl
theorem hb_wholeA {w:World} {b:Nat} {c:Array Value} {vs:List Value} {t:TypeId} (h:w.heap[b]?=some (.cells c t)) (hn:vs.length=c.size):(w.setCells b 0 vs).heap[b]?=some (.cells vs.toArray t):=by
 have:=heap_setCells vs 0 c w h (by omega)
 rw [List.take_zero,Nat.zero_add,List.drop_of_length_le (by rw [Array.length_toList];omega),List.nil_append,List.append_nil] at this
 exact this
theorem zero_leaf:(Tryz.zeroCells95).size=111:=by kernel_rfl
theorem hb_other {w:World} {b b' o:Nat} {ob:Obj} (h:w.heap[b']?=some ob) (hne:b'≠b) (vs:List Value):(w.setCells b o vs).heap[b']?=some ob :=
 (Upd.setCells (S:=[b]) (b:=b) (by simp) vs o (Upd.refl _ w)).heap h (by simpa using hne)
theorem hb_upd (w:World) (b o:Nat) (vs:List Value):Upd [b] w (w.setCells b o vs):=Upd.setCells (by simp) vs o (Upd.refl _ w)
namespace M
theorem seg_set {α:Type} (p:α) (A B B' C T:List α) (n m:Nat) (hn:n=1+A.length) (hm:m=n+B.length):(p::(A++(B++C)++T)).take n++B'++(p::(A++(B++C)++T)).drop m=p::(A++(B'++C)++T):=by
 have e:p::(A++(B++C)++T)=(p::A)++(B++(C++T)):=by simp
 have hn':n=(p::A).length:=by rw [List.length_cons];omega
 rw [e,hm,hn',List.take_left',List.drop_append,List.drop_of_length_le (by omega),List.nil_append,Nat.add_sub_cancel_left,List.drop_left]
 ·simp
 ·rfl
theorem lfc_set {f:LF} (hS:f.S.length=15) {j:Nat} (hj:j < 15) (s:Sl):(lfc f).take (1+j*7)++slc s++(lfc f).drop (1+j*7+(slc s).length)=lfc { f with S:=f.S.set j s }:=by
 have hl:((f.S.take j).flatMap slc).length=7*j:=by rw [slcs_len,List.length_take];omega
 have e:f.S.flatMap slc=(f.S.take j).flatMap slc++(slc f.S[j]++(f.S.drop (j+1)).flatMap slc):=by
  conv=>lhs;rw [← List.take_append_drop j f.S,List.drop_eq_getElem_cons (by omega)]
  rw [List.flatMap_append,List.flatMap_cons]
 have e2:(f.S.set j s).flatMap slc=(f.S.take j).flatMap slc++(slc s++(f.S.drop (j+1)).flatMap slc):=by
  rw [List.set_eq_take_append_cons_drop,if_pos (by omega),List.flatMap_append,List.flatMap_cons]
 unfold lfc
 simp only
 rw [e,e2]
 exact seg_set _ _ _ _ _ _ _ _ (by rw [hl];omega) (by rw [slc_len,slc_len])
theorem lfc_perm {f:LF} (n:Nat) (o:List Nat):(lfc f).toArray.setIfInBounds 0 (.int .u64 ((pw n o:Nat):Int))=(lfc { f with n:=n,o:=o }).toArray:=by
 unfold lfc
 simp
theorem lfc_one (f:LF):(lfc f).toArray.all (·.oneCell')=true:=by
 refine all_oneCell_toArray fun v hv=>?_
 unfold lfc at hv
 rcases List.mem_cons.1 hv with rfl | hv
 ·rfl
 ·rcases List.mem_append.1 hv with hv | hv
  ·obtain ⟨s,_,hs⟩:=List.mem_flatMap.1 hv
   simp only [slc,List.mem_cons,List.not_mem_nil,or_false] at hs;rcases hs with rfl | rfl | rfl | rfl | rfl | rfl | rfl <;> rfl
  ·simp only [List.mem_cons,List.not_mem_nil,or_false] at hv
   rcases hv with rfl | rfl | rfl | rfl | rfl <;> rfl
end M
theorem lf_store {w : World} {b j : Nat} {f : LF} (h : w.heap[b]? = some (.cells (lfc f).toArray 95)) (hS : f.S.length = 15) (hj : j < 15) (s : Sl) :
    (w.setCells b (1+j*7) (slc s)).heap[b]?=some (.cells (lfc { f with S:=f.S.set j s }).toArray 95):=by
 rw [hb_set h (slc s) (by rw [lfc_len hS,slc_len];omega),lfc_set hS hj s]
theorem lf_word {w : World} {b : Nat} {f : LF} (h : w.heap[b]? = some (.cells (lfc f).toArray 95)) (n : Nat) (o : List Nat) :
    (w.setCell ⟨b,0,none⟩ (.int .u64 ((pw n o:Nat):Int))).heap[b]?=some (.cells (lfc { f with n:=n,o:=o }).toArray 95):=by
 rw [heap_set_same h 0 _,lfc_perm]
end Go.Proofs.YtbdealmkmpnpoaaGreat
namespace Go.Proofs.YtbdealmkmpnpoaaGreat.M
open Go.RowKit
structure PB (w:World) (LB SB RB OB:Nat) (cs:List Value) (so:Obj) (W:World):Prop where
 bel:Below w.heap.size w W
 lb:W.heap[LB]?=some (.cells cs.toArray 95)
 sb:W.heap[SB]?=some so
 rb:W.heap[RB]?=some (.cells Tryz.zeroCells95 95)
 ob:W.heap[OB]?=some (.cells #[.int .u64 0,.int .u8 0,.string ⟨#[]⟩,.string ⟨#[]⟩,.bool false,.int .i64 0,.int .u64 0] 92)
theorem PB.below {w W W':World} {LB SB RB OB:Nat} {cs:List Value} {so:Obj} (h:PB w LB SB RB OB cs so W) (hb:Below W.heap.size W W'):PB w LB SB RB OB cs so W' :=
 ⟨h.bel.trans (hb.mono h.bel.size),Below.heap' hb h.lb,Below.heap' hb h.sb,Below.heap' hb h.rb,Below.heap' hb h.ob⟩
theorem PB.start (w : World) (cs : List Value) (so : Obj) : PB w w.heap.size (w.heap.size + 1) (w.heap.size + 2) (w.heap.size + 3) cs so
    ((((w.alloc (.cells cs.toArray 95)).alloc so).alloc (.cells Tryz.zeroCells95 95)).alloc (.cells #[.int .u64 0,.int .u8 0,.string ⟨#[]⟩,.string ⟨#[]⟩,.bool false,.int .i64 0,.int .u64 0] 92)):=by
 have e1:(w.alloc (.cells cs.toArray 95)).heap.size=w.heap.size+1:=by simp
 have e2:((w.alloc (.cells cs.toArray 95)).alloc so).heap.size=w.heap.size+2:=by simp
 have e3:(((w.alloc (.cells cs.toArray 95)).alloc so).alloc (.cells Tryz.zeroCells95 95)).heap.size=w.heap.size+3:=by simp
 refine ⟨((((Below.refl w.heap.size w).alloc (Nat.le_refl _) _).alloc (by simp) _).alloc (by simp;omega) _).alloc (by simp;omega) _,?_,?_,?_,?_⟩
 ·exact heap_alloc_old _ (heap_alloc_old _ (heap_alloc_old _ (heap_alloc_new _ _)))
 ·rw [← e1];exact heap_alloc_old _ (heap_alloc_old _ (heap_alloc_new _ _))
 ·rw [← e2];exact heap_alloc_old _ (heap_alloc_new _ _)
 ·rw [← e3];exact heap_alloc_new _ _
set_option maxRecDepth 100000 in
set_option maxHeartbeats 4000000 in
theorem lfPut_new (f : LF) (h : LFOK f) (s : Sl) (hs : SlOK s) (hc : f.cov s.m = true) (hn : f.n < 14) (hh : hasK (mT s.m) f.bn.keys = false) (w : World) :
    Calls Tryz.prog 64 #[lfV f,slV s] w fun e w'=>e=.returned (.tuple #[lfV (f.ins (cut (mT s.m) f.bn.keys) s),slV zeroSl,.bool false])∧Below w.heap.size w w':=by
 rw [show (slV zeroSl)=.agg #[.int .u64 0,.int .u8 0,.string ⟨#[]⟩,.string ⟨#[]⟩,.bool false,.int .i64 0,.int .u64 0] from rfl]
 have hk:=h.klen
 have hl:=lfc_len h.S
 have hRt:=qh fun W=>lfRight_any f h W
 have hSr:=qh fun W=>slRight_any s hs W
 have hCv:=fun W=>lfCovers_any f h s.m W
 rw [hc] at hCv
 replace hCv:=qh hCv
 have hFi:=fun W=>lfFind_any f h s.m hs.m W
 rw [hh] at hFi
 obtain ⟨i,hi⟩:∃ i,i=cut (mT s.m) f.bn.keys:=⟨_,rfl⟩
 have hil:i≤f.n:=by rw [hi,← hk];exact cut_le _ _
 rw [← hi] at hFi ⊢
 replace hFi:=qh hFi
 have hIn:=qh fun W=>pmInsert_any f.n f.o i h.pw hil W
 have hj:=(h.ord (r:=f.n) (by omega)).2
 have hp0:=qh fun (W:World) (b:Nat) (hb:W.heap[b]?=some (.cells (lfc f).toArray 95))=>(lf_heap hb h.S).1
 have hwd:=qh fun (W:World) (b:Nat) (hb:W.heap[b]?=some (.cells (lfc f).toArray 95))=>lf_word hb (f.n+1) (moveL f.o f.n i)
 have hst:=qh fun (W:World) (b:Nat) (hb:W.heap[b]?=some (.cells (lfc { f with n:=f.n+1,o:=moveL f.o f.n i }).toArray 95))=>lf_store hb h.S hj s
 have hl2:(lfc (f.ins i s)).length=111:=lfc_len (by show (f.S.set _ _).length=15;rw [List.length_set];exact h.S)
 have hone:=lfc_one (f.ins i s)
 have hl1:(lfc { f with n:=f.n+1,o:=moveL f.o f.n i }).length=111:=lfc_len h.S
 unfold LF.ins at hl2 hone ⊢
 unfold lfV at hRt hCv hFi ⊢
 unfold mkV at hCv hFi
 unfold slV at hSr ⊢
 clear hk hh hi hc
 obtain ⟨⟨S,C⟩,r,v,d,⟨l1,l2⟩⟩:=s
 unfold slc at hst
 simp only at hst hSr hCv hFi hone hl2 ⊢
 obtain ⟨cs1,hcs1⟩:∃ cs,cs=lfc { f with n:=f.n+1,o:=moveL f.o f.n i }:=⟨_,rfl⟩
 rw [← hcs1] at hwd hst hl1
 obtain ⟨cs2,hcs2⟩:∃ cs,cs=lfc { f with n:=f.n+1,o:=moveL f.o f.n i,S:=f.S.set (f.o.getD f.n 0) ⟨⟨S,C⟩,r,v,d,(l1,l2)⟩ }:=⟨_,rfl⟩
 rw [← hcs2] at hst hone hl2 ⊢
 obtain ⟨cs,hcs⟩:∃ cs,cs=lfc f:=⟨_,rfl⟩
 rw [← hcs] at hl hRt hCv hFi hp0 hwd ⊢
 obtain ⟨p,hp⟩:∃ p,p=pw f.n f.o:=⟨_,rfl⟩
 rw [← hp] at hp0 hIn
 obtain ⟨p1,hp1⟩:∃ p,p=pw (f.n+1) (moveL f.o f.n i):=⟨_,rfl⟩
 rw [← hp1] at hwd hIn
 obtain ⟨j,hje⟩:∃ j,j=f.o.getD f.n 0:=⟨_,rfl⟩
 rw [← hje] at hst hIn hj
 replace hcs:=qh hcs
 replace hcs1:=qh hcs1
 replace hcs2:=qh hcs2
 replace hp:=qh hp
 replace hp1:=qh hp1
 replace hje:=qh hje
 replace hone:=qh hone
 clear h hs hn hil
 have hB0:=PB.start w cs (.cells #[.int .u64 ((S:Nat):Int),.int .u8 ((C:Nat):Int),.string r,.string v,.bool d,.int .i64 l1,.int .u64 l2] 92)
 obtain ⟨W0,hW0⟩:∃ W0,W0=(((w.alloc (.cells cs.toArray 95)).alloc (.cells #[.int .u64 ((S:Nat):Int),.int .u8 ((C:Nat):Int),.string r,.string v,.bool d,.int .i64 l1,.int .u64 l2] 92)).alloc (.cells Tryz.zeroCells95 95)).alloc (.cells #[.int .u64 0,.int .u8 0,.string ⟨#[]⟩,.string ⟨#[]⟩,.bool false,.int .i64 0,.int .u64 0] 92):=⟨_,rfl⟩
 rw [← hW0] at hB0
 have hr0:=qh (range_of_heap hB0.lb)
 replace hl:=qh hl
 replace hl1:=qh hl1
 replace hl2:=qh hl2
 replace hB0:=qh hB0
 go_enter Tryz.func64,Tryz.ntmps64
 go_upto_region 1 with fail
 rw [← hW0]
 replace hW0:=qh hW0
 simp only [show w.heap.size+1+1=w.heap.size+2 from rfl,show w.heap.size+2+1=w.heap.size+3 from rfl]
 obtain ⟨OB,hOB⟩:∃ b,b=w.heap.size+3:=⟨_,rfl⟩
 obtain ⟨RB,hRB⟩:∃ b,b=w.heap.size+2:=⟨_,rfl⟩
 obtain ⟨SB,hSB⟩:∃ b,b=w.heap.size+1:=⟨_,rfl⟩
 obtain ⟨LB,hLB⟩:∃ b,b=w.heap.size:=⟨_,rfl⟩
 rw [← hOB,← hRB,← hSB,← hLB] at hB0 ⊢
 rw [← hLB] at hr0
 have hne:Hid ((w.heap.size≤LB∧w.heap.size≤RB∧w.heap.size≤OB)∧SB≠LB∧RB≠LB∧OB≠LB∧OB≠RB):=qh (by omega)
 replace hOB:=qh hOB
 replace hRB:=qh hRB
 replace hSB:=qh hSB
 replace hLB:=qh hLB
 go_wp2_with (refine wpList_load_mid rfl 95 (.tmp 2) rfl LB 0 (by rfl) cs _ hr0.out Tryz.underlying95 rfl (by rw [hl.out];kernel_rfl) ?_)
 refine (hRt.out _).mono ?_
 rintro e W1 ⟨rfl,hb⟩
 have hB1:=hB0.out.below hb
 obtain ⟨a0,a1,a2,a3,a4,a5,a6,aq⟩:=box7 hB1.sb
 have hr1:=qh (range_of_heap hB1.lb)
 replace hB1:=qh hB1
 clear hb hB0 hr0
 go_wp2_with fail
 refine (hSr.out _).mono ?_
 rintro e W2 ⟨rfl,hb⟩
 have hB2:=hB1.out.below hb
 clear a0 a1 a2 a3 a4 a5 a6 aq
 obtain ⟨a0,a1,a2,a3,a4,a5,a6,aq⟩:=box7 hB2.sb
 have hr2:=qh (range_of_heap hB2.lb)
 replace hB2:=qh hB2
 clear hb hB1 hr1
 go_wp2_with (refine wpList_load_midg (by rfl) 95 (.tmp 2) rfl LB 0 (by rfl) cs _ hr2.out Tryz.underlying95 rfl (by rw [hl.out];kernel_rfl) ?_)
 refine (hCv.out _).mono ?_
 rintro e W3 ⟨rfl,hb⟩
 have hB3:=hB2.out.below hb
 clear a0 a1 a2 a3 a4 a5 a6 aq
 obtain ⟨a0,a1,a2,a3,a4,a5,a6,aq⟩:=box7 hB3.sb
 have hr3:=qh (range_of_heap hB3.lb)
 replace hB3:=qh hB3
 clear hb hB2 hr2
 go_wp2_with (refine wpList_load_mid rfl 95 (.tmp 2) rfl LB 0 (by rfl) cs _ hr3.out Tryz.underlying95 rfl (by rw [hl.out];kernel_rfl) ?_)
 refine (hFi.out _).mono ?_
 rintro e W4 ⟨rfl,hb⟩
 have hB4:=hB3.out.below hb
 clear a0 a1 a2 a3 a4 a5 a6 aq
 have c0:=hp0.out _ _ hB4.lb
 have cq:=heap_lt hB4.lb
 replace hB4:=qh hB4
 clear hb hB3 hr3
 go_wp2_with fail
 refine (hIn.out _).mono ?_
 rintro e W5 ⟨rfl,hb⟩
 have hB5:=hB4.out.below hb
 clear c0 cq
 obtain ⟨x1,x2,x3,x4,x5⟩:=hne.out
 have k1:=hwd.out _ _ hB5.lb
 have k1s:(W5.setCell ⟨LB,0,none⟩ (.int .u64 ((p1:Nat):Int))).heap[SB]?=_:=(heap_set_other ⟨LB,0,none⟩ _ x2).trans hB5.sb
 have k1r:(W5.setCell ⟨LB,0,none⟩ (.int .u64 ((p1:Nat):Int))).heap[RB]?=_:=(heap_set_other ⟨LB,0,none⟩ _ x3).trans hB5.rb
 have k1o:(W5.setCell ⟨LB,0,none⟩ (.int .u64 ((p1:Nat):Int))).heap[OB]?=_:=(heap_set_other ⟨LB,0,none⟩ _ x4).trans hB5.ob
 have u1:Upd [LB,RB,OB] W5 (W5.setCell ⟨LB,0,none⟩ (.int .u64 ((p1:Nat):Int))):=(Upd.refl _ _).setCell (by simp) _
 have c0:=hp0.out _ _ hB5.lb
 have f0:=frozen_of_heap hB5.lb 0
 have q0:=heap_lt hB5.lb
 have hbel:=qh hB5.bel
 obtain ⟨X1,hX1⟩:∃ X,X=W5.setCell ⟨LB,0,none⟩ (.int .u64 ((p1:Nat):Int)):=⟨_,rfl⟩
 rw [← hX1] at k1 k1s k1r k1o u1
 replace hX1:=qh hX1
 clear hB5 hb hB4 hp0
 go_upto_region 12 with fail
 rw [← hX1.out]
 clear c0 f0 q0 hX1
 have th1:X1.there LB (1+j*7) (#[Value.int .u64 ((S:Nat):Int),.int .u8 ((C:Nat):Int),.string r,.string v,.bool d,.int .i64 l1,.int .u64 l2]:Array Value).size:=hb_there k1 (by rw [hl1.out];show 1+j*7+7≤111;omega)
 obtain ⟨a0,a1,a2,a3,a4,a5,a6,aq⟩:=box7 k1s
 have q0:=heap_lt k1
 have hj0:(0:Int)≤(j:Int):=by omega
 have hj15:(j:Int) < 15:=by omega
 have k2:=hst.out _ _ k1
 have k2r:=hb_other (o:=1+j*7) k1r x3 [.int .u64 ((S:Nat):Int),.int .u8 ((C:Nat):Int),.string r,.string v,.bool d,.int .i64 l1,.int .u64 l2]
 have k2o:=hb_other (o:=1+j*7) k1o x4 [.int .u64 ((S:Nat):Int),.int .u8 ((C:Nat):Int),.string r,.string v,.bool d,.int .i64 l1,.int .u64 l2]
 have u2:=u1.trans ((hb_upd X1 LB (1+j*7) [.int .u64 ((S:Nat):Int),.int .u8 ((C:Nat):Int),.string r,.string v,.bool d,.int .i64 l1,.int .u64 l2]).mono (by simp +contextual))
 obtain ⟨X2,hX2⟩:∃ X,X=X1.setCells LB (1+j*7) [.int .u64 ((S:Nat):Int),.int .u8 ((C:Nat):Int),.string r,.string v,.bool d,.int .i64 l1,.int .u64 l2]:=⟨_,rfl⟩
 rw [← hX2] at k2 k2r k2o u2
 replace hX2:=qh hX2
 replace th1:=qh th1
 replace u2:=qh u2
 clear k1 k1s k1r k1o u1 hst hwd
 go_upto_region 13 with (refine wpList_store_mid rfl 92 (.tmp 66) (.tmp 64) rfl LB (1+j*7) _ (by rfl) (by rfl) th1.out (by kernel_rfl) (by kernel_rfl) ?_)
 rw [← hX2.out]
 clear hX2 th1 a0 a1 a2 a3 a4 a5 a6 aq q0
 have hr2:=qh (range_of_heap k2)
 have th2:X2.there RB 0 cs2.toArray.size:=hb_thereA k2r (by rw [zero_leaf,List.size_toArray,hl2.out];omega)
 have q1:=heap_lt k2
 have q2:=heap_lt k2r
 have k3:=hb_wholeA (vs:=cs2) k2r (by rw [zero_leaf,hl2.out])
 have k3o:=hb_other (o:=0) k2o x5 cs2
 have u3:=u2.out.trans ((hb_upd X2 RB 0 cs2).mono (by simp +contextual))
 obtain ⟨X3,hX3⟩:∃ X,X=X2.setCells RB 0 cs2:=⟨_,rfl⟩
 rw [← hX3] at k3 k3o u3
 obtain ⟨y0,y1,y2,y3,y4,y5,y6,yq⟩:=box7 k3o
 have yf:=frozen_of_heap k3o
 obtain ⟨hz1,hz2⟩:=set7 k3o (.int .u64 0) (.int .u8 0) (.string ⟨#[]⟩) (.string ⟨#[]⟩) (.bool false) (.int .i64 0) (.int .u64 0)
 have k4:=hz2.heap k3 (by simpa using fun e=>x5 e.symm)
 have hr4:=range_of_heap k4
 have hld:=run_loadVar_mid (P:=Tryz.prog) _ RB 0 95 cs2 _ hr4 Tryz.underlying95 rfl (by rw [hl2.out];kernel_rfl)
 have hl7:=run_loadVar_mid (P:=Tryz.prog) _ OB 0 92 [.int .u64 0,.int .u8 0,.string ⟨#[]⟩,.string ⟨#[]⟩,.bool false,.int .i64 0,.int .u64 0] _ (range_of_heap hz1) Tryz.underlying92 rfl (by kernel_rfl)
 have hfin:=qh (hbel.out.trans ((u3.trans (hz2.mono (by simp +contextual))).below hbel.out.size (by
  intro k hk;simp only [List.mem_cons,List.not_mem_nil,or_false] at hk;rcases hk with rfl | rfl | rfl
  ·exact x1.1
  ·exact x1.2.1
  ·exact x1.2.2)))
 replace hld:=qh hld
 replace hl7:=qh hl7
 replace th2:=qh th2
 replace hX3:=qh hX3
 replace k3o:=qh k3o
 replace k4:=qh k4
 replace hr4:=qh hr4
 clear hz1 hz2 k2 k2r k2o u3 u2 k3
 go_wp2_with (first
  | refine wpList_load_mid rfl 95 (.tmp 2) rfl LB 0 (by rfl) cs2 _ hr2.out Tryz.underlying95 rfl (by rw [hl2.out];kernel_rfl) ?_
  | (refine wpList_store_mid rfl 95 (.tmp 4) (.tmp 67) rfl RB 0 cs2.toArray (by rfl) (by rfl) th2.out (by rw [List.size_toArray, hl2.out]; kernel_rfl) hone.out ?_
     rw [← hX3.out]))
 simp only [set7w] at hld hl7 hfin
 refine bodyPost_ret (v:=.tuple #[.agg cs2.toArray,.agg #[.int .u64 0,.int .u8 0,.string ⟨#[]⟩,.string ⟨#[]⟩,.bool false,.int .i64 0,.int .u64 0],.bool false]) (by simp [results,Tryz.results64,asAddr,hld.out,hl7.out]) rfl ⟨rfl,hfin.out⟩
open Go.RowKit
set_option maxRecDepth 100000 in
set_option maxHeartbeats 4000000 in
theorem lfPut_old (f : LF) (h : LFOK f) (s : Sl) (hs : SlOK s) (hc : f.cov s.m = true) (hh : hasK (mT s.m) f.bn.keys = true) (w : World) :
    Calls Tryz.prog 64 #[lfV f,slV s] w fun e w'=>e=.returned (.tuple #[lfV (f.set (cut (mT s.m) f.bn.keys) s),slV (f.slot (cut (mT s.m) f.bn.keys)),.bool true])∧Below w.heap.size w w':=by
 have hl:=lfc_len h.S
 have hRt:=qh fun W=>lfRight_any f h W
 have hSr:=qh fun W=>slRight_any s hs W
 have hCv:=fun W=>lfCovers_any f h s.m W
 rw [hc] at hCv
 replace hCv:=qh hCv
 have hFi:=fun W=>lfFind_any f h s.m hs.m W
 rw [hh] at hFi
 have hil:=((h.has hs.m).1 hh).1
 obtain ⟨i,hi⟩:∃ i,i=cut (mT s.m) f.bn.keys:=⟨_,rfl⟩
 rw [← hi] at hFi hil ⊢
 replace hFi:=qh hFi
 obtain ⟨p1,p2,p3⟩:=h.pw.nib
 have hn:=h.n
 have hAt:=qh fun W=>pmAt_any f.n f.o i p1 p2 p3 (by omega) W
 have hj:=(h.ord (r:=i) (by omega)).2
 have hp0:=qh fun (W:World) (b:Nat) (hb:W.heap[b]?=some (.cells (lfc f).toArray 95))=>(⟨(lf_heap hb h.S).1,lf_slot hb h (show i < 15 by omega)⟩:_∧_)
 have hst:=qh fun (W:World) (b:Nat) (hb:W.heap[b]?=some (.cells (lfc f).toArray 95))=>lf_store hb h.S hj s
 have hl2:(lfc (f.set i s)).length=111:=lfc_len (by show (f.S.set _ _).length=15;rw [List.length_set];exact h.S)
 have hone:=lfc_one (f.set i s)
 unfold LF.set at hl2 hone ⊢
 unfold lfV at hRt hCv hFi ⊢
 unfold mkV at hCv hFi
 unfold slV at hSr ⊢
 clear hh hi hc p1 p2 p3
 obtain ⟨⟨S,C⟩,r,v,d,⟨l1,l2⟩⟩:=s
 obtain ⟨⟨⟨S0,C0⟩,r0,v0,d0,⟨k1,k2⟩⟩,hse⟩:∃ s,s=f.slot i:=⟨_,rfl⟩
 rw [← hse] at hp0 ⊢
 unfold slc at hst hp0
 simp only at hst hp0 hSr hCv hFi hone hl2 ⊢
 obtain ⟨cs2,hcs2⟩:∃ cs,cs=lfc { f with S:=f.S.set (f.o.getD i 0) ⟨⟨S,C⟩,r,v,d,(l1,l2)⟩ }:=⟨_,rfl⟩
 rw [← hcs2] at hst hone hl2 ⊢
 obtain ⟨cs,hcs⟩:∃ cs,cs=lfc f:=⟨_,rfl⟩
 rw [← hcs] at hl hRt hCv hFi hp0 hst ⊢
 obtain ⟨p,hp⟩:∃ p,p=pw f.n f.o:=⟨_,rfl⟩
 rw [← hp] at hp0 hAt
 obtain ⟨j,hje⟩:∃ j,j=f.o.getD i 0:=⟨_,rfl⟩
 rw [← hje] at hst hAt hj hp0
 replace hse:=qh hse
 replace hcs:=qh hcs
 replace hcs2:=qh hcs2
 replace hp:=qh hp
 replace hje:=qh hje
 replace hone:=qh hone
 clear h hs hn hil
 have hB0:=PB.start w cs (.cells #[.int .u64 ((S:Nat):Int),.int .u8 ((C:Nat):Int),.string r,.string v,.bool d,.int .i64 l1,.int .u64 l2] 92)
 obtain ⟨W0,hW0⟩:∃ W0,W0=(((w.alloc (.cells cs.toArray 95)).alloc (.cells #[.int .u64 ((S:Nat):Int),.int .u8 ((C:Nat):Int),.string r,.string v,.bool d,.int .i64 l1,.int .u64 l2] 92)).alloc (.cells Tryz.zeroCells95 95)).alloc (.cells #[.int .u64 0,.int .u8 0,.string ⟨#[]⟩,.string ⟨#[]⟩,.bool false,.int .i64 0,.int .u64 0] 92):=⟨_,rfl⟩
 rw [← hW0] at hB0
 have hr0:=qh (range_of_heap hB0.lb)
 replace hl:=qh hl
 replace hl2:=qh hl2
 replace hB0:=qh hB0
 go_enter Tryz.func64,Tryz.ntmps64
 go_upto_region 1 with fail
 rw [← hW0]
 replace hW0:=qh hW0
 simp only [show w.heap.size+1+1=w.heap.size+2 from rfl,show w.heap.size+2+1=w.heap.size+3 from rfl]
 obtain ⟨OB,hOB⟩:∃ b,b=w.heap.size+3:=⟨_,rfl⟩
 obtain ⟨RB,hRB⟩:∃ b,b=w.heap.size+2:=⟨_,rfl⟩
 obtain ⟨SB,hSB⟩:∃ b,b=w.heap.size+1:=⟨_,rfl⟩
 obtain ⟨LB,hLB⟩:∃ b,b=w.heap.size:=⟨_,rfl⟩
 rw [← hOB,← hRB,← hSB,← hLB] at hB0 ⊢
 rw [← hLB] at hr0
 have hne:Hid ((w.heap.size≤LB∧w.heap.size≤RB∧w.heap.size≤OB)∧SB≠LB∧RB≠LB∧OB≠LB∧OB≠RB∧SB≠OB∧LB≠OB∧RB≠OB):=qh (by omega)
 replace hOB:=qh hOB
 replace hRB:=qh hRB
 replace hSB:=qh hSB
 replace hLB:=qh hLB
 go_wp2_with (refine wpList_load_mid rfl 95 (.tmp 2) rfl LB 0 (by rfl) cs _ hr0.out Tryz.underlying95 rfl (by rw [hl.out];kernel_rfl) ?_)
 refine (hRt.out _).mono ?_
 rintro e W1 ⟨rfl,hb⟩
 have hB1:=hB0.out.below hb
 obtain ⟨a0,a1,a2,a3,a4,a5,a6,aq⟩:=box7 hB1.sb
 have hr1:=qh (range_of_heap hB1.lb)
 replace hB1:=qh hB1
 clear hb hB0 hr0
 go_wp2_with fail
 refine (hSr.out _).mono ?_
 rintro e W2 ⟨rfl,hb⟩
 have hB2:=hB1.out.below hb
 clear a0 a1 a2 a3 a4 a5 a6 aq
 obtain ⟨a0,a1,a2,a3,a4,a5,a6,aq⟩:=box7 hB2.sb
 have hr2:=qh (range_of_heap hB2.lb)
 replace hB2:=qh hB2
 clear hb hB1 hr1
 go_wp2_with (refine wpList_load_midg (by rfl) 95 (.tmp 2) rfl LB 0 (by rfl) cs _ hr2.out Tryz.underlying95 rfl (by rw [hl.out];kernel_rfl) ?_)
 refine (hCv.out _).mono ?_
 rintro e W3 ⟨rfl,hb⟩
 have hB3:=hB2.out.below hb
 clear a0 a1 a2 a3 a4 a5 a6 aq
 obtain ⟨a0,a1,a2,a3,a4,a5,a6,aq⟩:=box7 hB3.sb
 have hr3:=qh (range_of_heap hB3.lb)
 replace hB3:=qh hB3
 clear hb hB2 hr2
 go_wp2_with (refine wpList_load_mid rfl 95 (.tmp 2) rfl LB 0 (by rfl) cs _ hr3.out Tryz.underlying95 rfl (by rw [hl.out];kernel_rfl) ?_)
 refine (hFi.out _).mono ?_
 rintro e W4 ⟨rfl,hb⟩
 have hB4:=hB3.out.below hb
 clear a0 a1 a2 a3 a4 a5 a6 aq
 have c0:=(hp0.out _ _ hB4.lb).1
 have cq:=heap_lt hB4.lb
 replace hB4:=qh hB4
 clear hb hB3 hr3
 go_wp2_with fail
 refine (hAt.out _).mono ?_
 rintro e W5 ⟨rfl,rfl⟩
 obtain ⟨x1,x2,x3,x4,x5,x6,x7,x8⟩:=hne.out
 have hB5:=hB4.out
 have hrs:=qh (hp0.out _ _ hB5.lb).2
 clear c0 cq hB4
 obtain ⟨hz1,hz2⟩:=set7 hB5.ob (.int .u64 ((S0:Nat):Int)) (.int .u8 ((C0:Nat):Int)) (.string r0) (.string v0) (.bool d0) (.int .i64 k1) (.int .u64 k2)
 have k1s:=hz2.heap hB5.sb (by simpa using x6)
 have k1l:=hz2.heap hB5.lb (by simpa using x7)
 have k1r:=hz2.heap hB5.rb (by simpa using x8)
 have u1:Upd [LB,RB,OB] W4 _:=hz2.mono (by simp +contextual)
 obtain ⟨b0,b1,b2,b3,b4,b5,b6,bq⟩:=box7 hB5.ob
 have bf:=frozen_of_heap hB5.ob
 have q0:=heap_lt hB5.lb
 have hbel:=qh hB5.bel
 have hj0:(0:Int)≤(j:Int):=by omega
 have hj15:(j:Int) < 15:=by omega
 clear hz2 hB5 hp0
 simp only [set7w] at hz1 k1s k1l k1r u1
 replace hz1:=qh hz1
 replace k1s:=qh k1s
 replace k1l:=qh k1l
 replace k1r:=qh k1r
 replace u1:=qh u1
 go_upto_region 7 with (refine wpList_load_mid rfl 92 (.tmp 44) rfl LB (1+j*7) (by rfl) _ _ hrs.out Tryz.underlying92 rfl (by kernel_rfl) ?_)
 obtain ⟨X1,hX1⟩:∃ X,X=((((((W4.setCell ⟨OB,0,none⟩ (.int .u64 ((S0:Nat):Int))).setCell ⟨OB,1,none⟩ (.int .u8 ((C0:Nat):Int))).setCell ⟨OB,2,none⟩ (.string r0)).setCell ⟨OB,3,none⟩ (.string v0)).setCell ⟨OB,4,none⟩ (.bool d0)).setCell ⟨OB,5,none⟩ (.int .i64 k1)).setCell ⟨OB,6,none⟩ (.int .u64 k2):=⟨_,rfl⟩
 rw [← hX1]
 rw [← hX1] at hz1 k1s k1l k1r u1
 replace hX1:=qh hX1
 clear b0 b1 b2 b3 b4 b5 b6 bq bf hrs
 obtain ⟨a0,a1,a2,a3,a4,a5,a6,aq⟩:=box7 k1s.out
 have th1:X1.there LB (1+j*7) (#[Value.int .u64 ((S:Nat):Int),.int .u8 ((C:Nat):Int),.string r,.string v,.bool d,.int .i64 l1,.int .u64 l2]:Array Value).size:=hb_there k1l.out (by rw [hl.out];show 1+j*7+7≤111;omega)
 have kl:=hst.out _ _ k1l.out
 have kr:=hb_other (o:=1+j*7) k1r.out x3 [.int .u64 ((S:Nat):Int),.int .u8 ((C:Nat):Int),.string r,.string v,.bool d,.int .i64 l1,.int .u64 l2]
 have ko:=hb_other (o:=1+j*7) hz1.out x4 [.int .u64 ((S:Nat):Int),.int .u8 ((C:Nat):Int),.string r,.string v,.bool d,.int .i64 l1,.int .u64 l2]
 have ub:=u1.out.trans ((hb_upd X1 LB (1+j*7) [.int .u64 ((S:Nat):Int),.int .u8 ((C:Nat):Int),.string r,.string v,.bool d,.int .i64 l1,.int .u64 l2]).mono (by simp +contextual))
 replace th1:=qh th1
 go_upto_region 8 with (refine wpList_store_mid rfl 92 (.tmp 49) (.tmp 47) rfl LB (1+j*7) _ (by rfl) (by rfl) th1.out (by kernel_rfl) (by kernel_rfl) ?_)
 obtain ⟨X,hX⟩:∃ X,X=X1.setCells LB (1+j*7) [.int .u64 ((S:Nat):Int),.int .u8 ((C:Nat):Int),.string r,.string v,.bool d,.int .i64 l1,.int .u64 l2]:=⟨_,rfl⟩
 rw [← hX]
 rw [← hX] at kl kr ko ub
 replace hX:=qh hX
 clear hz1 k1s k1l k1r u1 th1 hst q0 a0 a1 a2 a3 a4 a5 a6 aq hX1
 have hS0:X.drew.heap[LB]?=some (.cells cs2.toArray 95)∧X.drew.heap[RB]?=some (.cells Tryz.zeroCells95 95)∧X.drew.heap[OB]?=some (.cells #[.int .u64 ((S0:Nat):Int),.int .u8 ((C0:Nat):Int),.string r0,.string v0,.bool d0,.int .i64 k1,.int .u64 k2] 92):=⟨kl,kr,ko⟩
 have q1:=heap_lt kl
 have q2:=heap_lt kr
 have q3:=heap_lt ko
 have th2:X.drew.there RB 0 cs2.toArray.size:=hb_thereA hS0.2.1 (by rw [zero_leaf,List.size_toArray,hl2.out];omega)
 have k3:=hb_wholeA (vs:=cs2) hS0.2.1 (by rw [zero_leaf,hl2.out])
 have k3o:=hb_other (o:=0) hS0.2.2 x5 cs2
 have k3l:=hb_other (o:=0) hS0.1 (fun e=>x3 e.symm) cs2
 have u3:=(Upd.drew ub).trans ((hb_upd X.drew RB 0 cs2).mono (by simp +contextual))
 have th3:(X.drew.setCells RB 0 cs2).there OB 0 (#[Value.int .u64 ((S0:Nat):Int),.int .u8 ((C0:Nat):Int),.string r0,.string v0,.bool d0,.int .i64 k1,.int .u64 k2]:Array Value).size:=hb_thereA k3o (by simp)
 have k4o:=hb_wholeA (vs:=[.int .u64 ((S0:Nat):Int),.int .u8 ((C0:Nat):Int),.string r0,.string v0,.bool d0,.int .i64 k1,.int .u64 k2]) k3o rfl
 have u4:=hb_upd (X.drew.setCells RB 0 cs2) OB 0 [.int .u64 ((S0:Nat):Int),.int .u8 ((C0:Nat):Int),.string r0,.string v0,.bool d0,.int .i64 k1,.int .u64 k2]
 have k4:=u4.heap k3 (by simpa using fun e=>x5 e.symm)
 have hld:=run_loadVar_mid (P:=Tryz.prog) _ RB 0 95 cs2 _ (range_of_heap k4) Tryz.underlying95 rfl (by rw [hl2.out];kernel_rfl)
 have hl7:=run_loadVar_mid (P:=Tryz.prog) _ OB 0 92 [.int .u64 ((S0:Nat):Int),.int .u8 ((C0:Nat):Int),.string r0,.string v0,.bool d0,.int .i64 k1,.int .u64 k2] _ (range_of_heap k4o) Tryz.underlying92 rfl (by kernel_rfl)
 have hfin:=qh (hbel.out.trans ((u3.trans (u4.mono (by simp +contextual))).below hbel.out.size (by
  intro k hk;simp only [List.mem_cons,List.not_mem_nil,or_false] at hk;rcases hk with rfl | rfl | rfl
  ·exact x1.1
  ·exact x1.2.1
  ·exact x1.2.2)))
 replace hld:=qh hld
 replace hl7:=qh hl7
 replace th2:=qh th2
 replace th3:=qh th3
 replace x3:=qh x3
 replace x5:=qh x5
 replace k3l:=qh k3l
 replace k3:=qh k3
 replace k3o:=qh k3o
 replace k4o:=qh k4o
 replace k4:=qh k4
 have k3r:Hid (∃ c,(X.drew.setCells RB 0 cs2).heap[RB]?=some (.cells c 95)):=qh ⟨_,k3.out⟩
 replace hS0:=qh hS0
 replace u3:=qh u3
 replace u4:=qh u4
 clear kl kr ko ub x1 x2 x4
 refine wp_region_late [3] (S:=fun W'=>W'.heap[LB]?=some (.cells cs2.toArray 95)∧W'.heap[OB]?=some (.cells #[.int .u64 ((S0:Nat):Int),.int .u8 ((C0:Nat):Int),.string r0,.string v0,.bool d0,.int .i64 k1,.int .u64 k2] 92)) rfl ⟨hS0.out.1,hS0.out.2.2⟩ ?_
 intro hHeld
 refine ykM 0 ?_ (hy:=yieldsIf_load_mid (by rfl) 95 (.tmp 2) rfl LB 0 (by rfl) cs2 _ (fun w hw=>range_of_heap hw.1) Tryz.underlying95 rfl (by rw [hl2.out];kernel_rfl))
 refine ykM 1 ?_ (hy:=yieldsIf_load_mid (by rfl) 92 (.tmp 5) rfl OB 0 (by rfl) [.int .u64 ((S0:Nat):Int),.int .u8 ((C0:Nat):Int),.string r0,.string v0,.bool d0,.int .i64 k1,.int .u64 k2] _ (fun w hw=>range_of_heap hw.2) Tryz.underlying92 rfl (by kernel_rfl))
 refine rdM 2 ?_
 intro K hK
 rw [if_pos (by rfl)]
 refine wp_store_mid 95 (.tmp 4) (.tmp 50) rfl RB 0 cs2.toArray (by rfl) (by rfl) th2.out (by rw [List.size_toArray,hl2.out];kernel_rfl) hone.out ?_
 refine hK.out _ _ (fun _ _=>⟨k3l.out,k3o.out⟩) ?_
 clear hK K
 try simp only [Act.put,zs1,zs2,zs3]
 refine rdM 3 ?_
 intro K hK
 rw [if_pos (by rfl)]
 refine wp_store_mid 92 (.tmp 5) (.tmp 51) rfl OB 0 #[.int .u64 ((S0:Nat):Int),.int .u8 ((C0:Nat):Int),.string r0,.string v0,.bool d0,.int .i64 k1,.int .u64 k2] (by rfl) (by rfl) th3.out (by kernel_rfl) (by kernel_rfl) ?_
 refine hK.out _ _ (fun h=>by cases h) ?_
 clear hK K
 try simp only [Act.put,zs1,zs2,zs3]
 refine rdM 4 ?_
 intro K hK
 go_simp
 refine hK.out _ _ (fun _ hh=>hh) ?_
 clear hK K
 try simp only [Act.put,zs1,zs2,zs3]
 refine wpAnyM_done (by kernel_rfl) ?_ _
 try simp only [Exit.then]
 go_wp2_with fail
 refine bodyPost_ret (v:=.tuple #[.agg cs2.toArray,.agg #[.int .u64 ((S0:Nat):Int),.int .u8 ((C0:Nat):Int),.string r0,.string v0,.bool d0,.int .i64 k1,.int .u64 k2],.bool true]) (by simp [results,Tryz.results64,asAddr,hld.out,hl7.out]) rfl ⟨rfl,hfin.out⟩
set_option maxRecDepth 100000 in
set_option maxHeartbeats 4000000 in
theorem lfDelete_any (f : LF) (h : LFOK f) (m : Mk) (hm : MkOK m) (hh : hasK (mT m) f.bn.keys = true) (w : World) :
    Calls Tryz.prog 70 #[lfV f,mkV m] w fun e w'=>e=.returned (.tuple #[lfV (f.del (cut (mT m) f.bn.keys)),slV (f.slot (cut (mT m) f.bn.keys)),.bool true])∧Below w.heap.size w w':=by
 have hl:=lfc_len h.S
 have hFi:=fun W=>lfFind_any f h m hm W
 rw [hh] at hFi
 have hil:=((h.has hm).1 hh).1
 obtain ⟨i,hi⟩:∃ i,i=cut (mT m) f.bn.keys:=⟨_,rfl⟩
 rw [← hi] at hFi hil ⊢
 replace hFi:=qh hFi
 have hn:=h.n
 have hRm:=qh fun W=>pmRemove_any f.n f.o i h.pw hil W
 have hj:=(h.ord (r:=i) (by omega)).2
 have hp0:=qh fun (W:World) (b:Nat) (hb:W.heap[b]?=some (.cells (lfc f).toArray 95))=>(⟨(lf_heap hb h.S).1,lf_slot hb h (show i < 15 by omega)⟩:_∧_)
 have hwd:=qh fun (W:World) (b:Nat) (hb:W.heap[b]?=some (.cells (lfc f).toArray 95))=>lf_word hb (f.n - 1) (moveL f.o i (f.n - 1))
 have hst:=qh fun (W:World) (b:Nat) (hb:W.heap[b]?=some (.cells (lfc { f with n:=f.n - 1,o:=moveL f.o i (f.n - 1) }).toArray 95))=>lf_store hb h.S hj zeroSl
 have hl2:(lfc (f.del i)).length=111:=lfc_len (by show (f.S.set _ _).length=15;rw [List.length_set];exact h.S)
 have hl1:(lfc { f with n:=f.n - 1,o:=moveL f.o i (f.n - 1) }).length=111:=lfc_len h.S
 have hone:=lfc_one (f.del i)
 unfold LF.del at hl2 hone ⊢
 unfold lfV at hFi ⊢
 unfold mkV at hFi ⊢
 unfold slV
 clear hh hi
 obtain ⟨⟨⟨S0,C0⟩,r0,v0,d0,⟨k1,k2⟩⟩,hse⟩:∃ s,s=f.slot i:=⟨_,rfl⟩
 rw [← hse] at hp0 ⊢
 have hzs:slc zeroSl=[.int .u64 0,.int .u8 0,.string ⟨#[]⟩,.string ⟨#[]⟩,.bool false,.int .i64 0,.int .u64 0]:=rfl
 unfold slc at hp0
 rw [hzs] at hst
 simp only at hst hp0 hFi hone hl2 ⊢
 clear hzs
 obtain ⟨cs1,hcs1⟩:∃ cs,cs=lfc { f with n:=f.n - 1,o:=moveL f.o i (f.n - 1) }:=⟨_,rfl⟩
 rw [← hcs1] at hwd hst hl1
 obtain ⟨cs2,hcs2⟩:∃ cs,cs=lfc { f with n:=f.n - 1,o:=moveL f.o i (f.n - 1),S:=f.S.set (f.o.getD i 0) zeroSl }:=⟨_,rfl⟩
 rw [← hcs2] at hst hone hl2 ⊢
 obtain ⟨cs,hcs⟩:∃ cs,cs=lfc f:=⟨_,rfl⟩
 rw [← hcs] at hl hFi hp0 hwd ⊢
 obtain ⟨p,hp⟩:∃ p,p=pw f.n f.o:=⟨_,rfl⟩
 rw [← hp] at hp0 hRm
 obtain ⟨p1,hp1⟩:∃ p,p=pw (f.n - 1) (moveL f.o i (f.n - 1)):=⟨_,rfl⟩
 rw [← hp1] at hwd hRm
 obtain ⟨j,hje⟩:∃ j,j=f.o.getD i 0:=⟨_,rfl⟩
 rw [← hje] at hst hRm hj hp0
 replace hcs1:=qh hcs1
 replace hp1:=qh hp1
 replace hse:=qh hse
 replace hcs:=qh hcs
 replace hcs2:=qh hcs2
 replace hp:=qh hp
 replace hje:=qh hje
 replace hone:=qh hone
 clear h hm hn hil
 have hB0:=PB.start w cs (.cells #[.int .u64 ((m.s:Nat):Int),.int .u8 ((m.c:Nat):Int)] 90)
 obtain ⟨W0,hW0⟩:∃ W0,W0=(((w.alloc (.cells cs.toArray 95)).alloc (.cells #[.int .u64 ((m.s:Nat):Int),.int .u8 ((m.c:Nat):Int)] 90)).alloc (.cells Tryz.zeroCells95 95)).alloc (.cells #[.int .u64 0,.int .u8 0,.string ⟨#[]⟩,.string ⟨#[]⟩,.bool false,.int .i64 0,.int .u64 0] 92):=⟨_,rfl⟩
 rw [← hW0] at hB0
 have hr0:=qh (range_of_heap hB0.lb)
 replace hl:=qh hl
 replace hl2:=qh hl2
 obtain ⟨a0,a1,aq,-⟩:=box2 hB0.sb
 replace hl1:=qh hl1
 replace hB0:=qh hB0
 go_enter Tryz.func70,Tryz.ntmps70
 go_upto_region 1 with fail
 rw [← hW0]
 replace hW0:=qh hW0
 simp only [show w.heap.size+1+1=w.heap.size+2 from rfl,show w.heap.size+2+1=w.heap.size+3 from rfl]
 obtain ⟨OB,hOB⟩:∃ b,b=w.heap.size+3:=⟨_,rfl⟩
 obtain ⟨RB,hRB⟩:∃ b,b=w.heap.size+2:=⟨_,rfl⟩
 obtain ⟨SB,hSB⟩:∃ b,b=w.heap.size+1:=⟨_,rfl⟩
 obtain ⟨LB,hLB⟩:∃ b,b=w.heap.size:=⟨_,rfl⟩
 rw [← hOB,← hRB,← hSB,← hLB] at hB0 ⊢
 rw [← hLB] at hr0
 rw [← hSB] at a0 a1 aq
 have hne:Hid ((w.heap.size≤LB∧w.heap.size≤RB∧w.heap.size≤OB)∧SB≠LB∧RB≠LB∧OB≠LB∧OB≠RB∧SB≠OB∧LB≠OB∧RB≠OB):=qh (by omega)
 replace hOB:=qh hOB
 replace hRB:=qh hRB
 replace hSB:=qh hSB
 replace hLB:=qh hLB
 go_wp2_with (refine wpList_load_mid rfl 95 (.tmp 2) rfl LB 0 (by rfl) cs _ hr0.out Tryz.underlying95 rfl (by rw [hl.out];kernel_rfl) ?_)
 refine (hFi.out _).mono ?_
 rintro e W1 ⟨rfl,hb⟩
 have hB1:=hB0.out.below hb
 have c0:=(hp0.out _ _ hB1.lb).1
 have cq:=heap_lt hB1.lb
 replace hB1:=qh hB1
 clear hb hB0 hr0 a0 a1 aq
 go_wp2_with fail
 refine (hRm.out _).mono ?_
 rintro e W4 ⟨rfl,hb⟩
 obtain ⟨x1,x2,x3,x4,x5,x6,x7,x8⟩:=hne.out
 have hB5:=hB1.out.below hb
 have hrs:=qh (hp0.out _ _ hB5.lb).2
 clear c0 cq hB1 hb
 obtain ⟨hz1,hz2⟩:=set7 hB5.ob (.int .u64 ((S0:Nat):Int)) (.int .u8 ((C0:Nat):Int)) (.string r0) (.string v0) (.bool d0) (.int .i64 k1) (.int .u64 k2)
 have k1l:=hz2.heap hB5.lb (by simpa using x7)
 have k1r:=hz2.heap hB5.rb (by simpa using x8)
 have u1:Upd [LB,RB,OB] W4 _:=hz2.mono (by simp +contextual)
 obtain ⟨b0,b1,b2,b3,b4,b5,b6,bq⟩:=box7 hB5.ob
 have bf:=frozen_of_heap hB5.ob
 have q0:=heap_lt hB5.lb
 have hbel:=qh hB5.bel
 have hj0:(0:Int)≤(j:Int):=by omega
 have hj15:(j:Int) < 15:=by omega
 clear hz2 hB5
 simp only [set7w] at hz1 k1l k1r u1
 replace hz1:=qh hz1
 replace k1l:=qh k1l
 replace k1r:=qh k1r
 replace u1:=qh u1
 go_upto_region 6 with (refine wpList_load_mid rfl 92 (.tmp 32) rfl LB (1+j*7) (by rfl) _ _ hrs.out Tryz.underlying92 rfl (by kernel_rfl) ?_)
 obtain ⟨X1,hX1⟩:∃ X,X=((((((W4.setCell ⟨OB,0,none⟩ (.int .u64 ((S0:Nat):Int))).setCell ⟨OB,1,none⟩ (.int .u8 ((C0:Nat):Int))).setCell ⟨OB,2,none⟩ (.string r0)).setCell ⟨OB,3,none⟩ (.string v0)).setCell ⟨OB,4,none⟩ (.bool d0)).setCell ⟨OB,5,none⟩ (.int .i64 k1)).setCell ⟨OB,6,none⟩ (.int .u64 k2):=⟨_,rfl⟩
 rw [← hX1]
 rw [← hX1] at hz1 k1l k1r u1
 replace hX1:=qh hX1
 clear b0 b1 b2 b3 b4 b5 b6 bq bf hrs q0
 have c0:=(hp0.out _ _ k1l.out).1
 have cf:=frozen_of_heap k1l.out 0
 have cq:=heap_lt k1l.out
 have k2l:=hwd.out _ _ k1l.out
 have k2r:=(heap_set_other (w:=X1) ⟨LB,0,none⟩ (.int .u64 ((p1:Nat):Int)) x3).trans k1r.out
 have k2o:=(heap_set_other (w:=X1) ⟨LB,0,none⟩ (.int .u64 ((p1:Nat):Int)) x4).trans hz1.out
 have u2:Upd [LB,RB,OB] W4 _:=u1.out.setCell (p:=⟨LB,0,none⟩) (by simp) (.int .u64 ((p1:Nat):Int))
 go_upto_region 7 with fail
 obtain ⟨X2,hX2⟩:∃ X,X=X1.setCell ⟨LB,0,none⟩ (.int .u64 ((p1:Nat):Int)):=⟨_,rfl⟩
 rw [← hX2]
 rw [← hX2] at k2l k2r k2o u2
 replace hX2:=qh hX2
 clear c0 cf cq hz1 k1l k1r u1 hX1
 have th1:X2.there LB (1+j*7) (#[Value.int .u64 0,.int .u8 0,.string ⟨#[]⟩,.string ⟨#[]⟩,.bool false,.int .i64 0,.int .u64 0]:Array Value).size:=hb_there k2l (by rw [hl1.out];show 1+j*7+7≤111;omega)
 have kl:=hst.out _ _ k2l
 have kr:=hb_other (o:=1+j*7) k2r x3 [.int .u64 0,.int .u8 0,.string ⟨#[]⟩,.string ⟨#[]⟩,.bool false,.int .i64 0,.int .u64 0]
 have ko:=hb_other (o:=1+j*7) k2o x4 [.int .u64 0,.int .u8 0,.string ⟨#[]⟩,.string ⟨#[]⟩,.bool false,.int .i64 0,.int .u64 0]
 have ub:=u2.trans ((hb_upd X2 LB (1+j*7) [.int .u64 0,.int .u8 0,.string ⟨#[]⟩,.string ⟨#[]⟩,.bool false,.int .i64 0,.int .u64 0]).mono (by simp +contextual))
 have q0:=heap_lt k2l
 replace th1:=qh th1
 replace kl:=qh kl
 replace kr:=qh kr
 replace ko:=qh ko
 replace ub:=qh ub
 replace k2l:=qh k2l
 replace k2r:=qh k2r
 replace k2o:=qh k2o
 go_upto_region 8 with (refine wpList_store_mid rfl 92 (.tmp 39) (.tmp 37) rfl LB (1+j*7) _ (by rfl) (by rfl) th1.out (by kernel_rfl) (by kernel_rfl) ?_)
 replace kl:=kl.out
 replace kr:=kr.out
 replace ko:=ko.out
 replace ub:=ub.out
 obtain ⟨X,hX⟩:∃ X,X=X2.setCells LB (1+j*7) [.int .u64 0,.int .u8 0,.string ⟨#[]⟩,.string ⟨#[]⟩,.bool false,.int .i64 0,.int .u64 0]:=⟨_,rfl⟩
 rw [← hX]
 rw [← hX] at kl kr ko ub
 replace hX:=qh hX
 clear k2l k2r k2o u2 th1 hst hwd q0 hX2 hp0
 have hS0:X.drew.heap[LB]?=some (.cells cs2.toArray 95)∧X.drew.heap[RB]?=some (.cells Tryz.zeroCells95 95)∧X.drew.heap[OB]?=some (.cells #[.int .u64 ((S0:Nat):Int),.int .u8 ((C0:Nat):Int),.string r0,.string v0,.bool d0,.int .i64 k1,.int .u64 k2] 92):=⟨kl,kr,ko⟩
 have q1:=heap_lt kl
 have q2:=heap_lt kr
 have q3:=heap_lt ko
 have th2:X.drew.there RB 0 cs2.toArray.size:=hb_thereA hS0.2.1 (by rw [zero_leaf,List.size_toArray,hl2.out];omega)
 have k3:=hb_wholeA (vs:=cs2) hS0.2.1 (by rw [zero_leaf,hl2.out])
 have k3o:=hb_other (o:=0) hS0.2.2 x5 cs2
 have k3l:=hb_other (o:=0) hS0.1 (fun e=>x3 e.symm) cs2
 have u3:=(Upd.drew ub).trans ((hb_upd X.drew RB 0 cs2).mono (by simp +contextual))
 have th3:(X.drew.setCells RB 0 cs2).there OB 0 (#[Value.int .u64 ((S0:Nat):Int),.int .u8 ((C0:Nat):Int),.string r0,.string v0,.bool d0,.int .i64 k1,.int .u64 k2]:Array Value).size:=hb_thereA k3o (by simp)
 have k4o:=hb_wholeA (vs:=[.int .u64 ((S0:Nat):Int),.int .u8 ((C0:Nat):Int),.string r0,.string v0,.bool d0,.int .i64 k1,.int .u64 k2]) k3o rfl
 have u4:=hb_upd (X.drew.setCells RB 0 cs2) OB 0 [.int .u64 ((S0:Nat):Int),.int .u8 ((C0:Nat):Int),.string r0,.string v0,.bool d0,.int .i64 k1,.int .u64 k2]
 have k4:=u4.heap k3 (by simpa using fun e=>x5 e.symm)
 have hld:=run_loadVar_mid (P:=Tryz.prog) _ RB 0 95 cs2 _ (range_of_heap k4) Tryz.underlying95 rfl (by rw [hl2.out];kernel_rfl)
 have hl7:=run_loadVar_mid (P:=Tryz.prog) _ OB 0 92 [.int .u64 ((S0:Nat):Int),.int .u8 ((C0:Nat):Int),.string r0,.string v0,.bool d0,.int .i64 k1,.int .u64 k2] _ (range_of_heap k4o) Tryz.underlying92 rfl (by kernel_rfl)
 have hfin:=qh (hbel.out.trans ((u3.trans (u4.mono (by simp +contextual))).below hbel.out.size (by
  intro k hk;simp only [List.mem_cons,List.not_mem_nil,or_false] at hk;rcases hk with rfl | rfl | rfl
  ·exact x1.1
  ·exact x1.2.1
  ·exact x1.2.2)))
 replace hld:=qh hld
 replace hl7:=qh hl7
 replace th2:=qh th2
 replace th3:=qh th3
 replace x3:=qh x3
 replace x5:=qh x5
 replace k3l:=qh k3l
 replace k3:=qh k3
 replace k3o:=qh k3o
 replace k4o:=qh k4o
 replace k4:=qh k4
 have k3r:Hid (∃ c,(X.drew.setCells RB 0 cs2).heap[RB]?=some (.cells c 95)):=qh ⟨_,k3.out⟩
 replace hS0:=qh hS0
 replace u3:=qh u3
 replace u4:=qh u4
 clear kl kr ko ub x1 x2 x4
 refine wp_region_late [3] (S:=fun W'=>W'.heap[LB]?=some (.cells cs2.toArray 95)∧W'.heap[OB]?=some (.cells #[.int .u64 ((S0:Nat):Int),.int .u8 ((C0:Nat):Int),.string r0,.string v0,.bool d0,.int .i64 k1,.int .u64 k2] 92)) rfl ⟨hS0.out.1,hS0.out.2.2⟩ ?_
 intro hHeld
 refine ykM 0 ?_ (hy:=yieldsIf_load_mid (by rfl) 95 (.tmp 2) rfl LB 0 (by rfl) cs2 _ (fun w hw=>range_of_heap hw.1) Tryz.underlying95 rfl (by rw [hl2.out];kernel_rfl))
 refine ykM 1 ?_ (hy:=yieldsIf_load_mid (by rfl) 92 (.tmp 5) rfl OB 0 (by rfl) [.int .u64 ((S0:Nat):Int),.int .u8 ((C0:Nat):Int),.string r0,.string v0,.bool d0,.int .i64 k1,.int .u64 k2] _ (fun w hw=>range_of_heap hw.2) Tryz.underlying92 rfl (by kernel_rfl))
 refine rdM 2 ?_
 intro K hK
 rw [if_pos (by rfl)]
 refine wp_store_mid 95 (.tmp 4) (.tmp 40) rfl RB 0 cs2.toArray (by rfl) (by rfl) th2.out (by rw [List.size_toArray,hl2.out];kernel_rfl) hone.out ?_
 refine hK.out _ _ (fun _ _=>⟨k3l.out,k3o.out⟩) ?_
 clear hK K
 try simp only [Act.put,zs1,zs2,zs3]
 refine rdM 3 ?_
 intro K hK
 rw [if_pos (by rfl)]
 refine wp_store_mid 92 (.tmp 5) (.tmp 41) rfl OB 0 #[.int .u64 ((S0:Nat):Int),.int .u8 ((C0:Nat):Int),.string r0,.string v0,.bool d0,.int .i64 k1,.int .u64 k2] (by rfl) (by rfl) th3.out (by kernel_rfl) (by kernel_rfl) ?_
 refine hK.out _ _ (fun h=>by cases h) ?_
 clear hK K
 try simp only [Act.put,zs1,zs2,zs3]
 refine rdM 4 ?_
 intro K hK
 go_simp
 refine hK.out _ _ (fun _ hh=>hh) ?_
 clear hK K
 try simp only [Act.put,zs1,zs2,zs3]
 refine wpAnyM_done (by kernel_rfl) ?_ _
 try simp only [Exit.then]
 go_wp2_with fail
 refine bodyPost_ret (v:=.tuple #[.agg cs2.toArray,.agg #[.int .u64 ((S0:Nat):Int),.int .u8 ((C0:Nat):Int),.string r0,.string v0,.bool d0,.int .i64 k1,.int .u64 k2],.bool true]) (by simp [results,Tryz.results70,asAddr,hld.out,hl7.out]) rfl ⟨rfl,hfin.out⟩
open Go.Lib
section
variable {f g:LF} {s:Sl} {m:Mk} {i j k r:Nat} {nx:Hd}
theorem LFOK.lts (h:LFOK f) (hij:i < j) (hj:j < f.n):(f.slot i).m.lt (f.slot j).m=true:=by
 have hl:=h.len
 have h1:=h.get (r:=i) (by omega)
 have h2:=h.get hj
 rw [List.getElem?_eq_getElem (by omega)] at h1 h2
 injection h1 with h1
 injection h2 with h2
 have:=List.pairwise_iff_getElem.1 h.rise i j (by omega) (by omega) hij
 rw [h1,h2] at this
 exact this
theorem LFOK.above (h:LFOK f) (hm:MkOK m) (ha:∀ x,x∈f.row→x.m.lt m=true):hasK (mT m) f.bn.keys=false∧cut (mT m) f.bn.keys=f.n:=by
 have hc:cut (mT m) f.bn.keys=f.n:=by
  refine cut_eq_of (by rw [h.klen];exact Nat.le_refl _) (fun i x hi hx=>?_) (fun x hx=>?_)
  ·rw [h.kget hi] at hx
   injection hx with hx;rw [← hx,← lt_slt (h.sok hi).m hm];exact ha _ (List.mem_of_getElem? (h.get hi))
  ·rw [List.getElem?_eq_none (by rw [h.klen];exact Nat.le_refl _)] at hx
   cases hx
 refine ⟨?_,hc⟩
 cases hh:hasK (mT m) f.bn.keys with
 | false=>rfl
 | true =>
  have:=(h.has hm).1 hh;omega
theorem lt_irr (m:Mk):m.lt m=false:=by simp [Mk.lt]
theorem LFOK.own (h:LFOK f) (hr:r < f.n):hasK (mT (f.slot r).m) f.bn.keys=true∧cut (mT (f.slot r).m) f.bn.keys=r:=by
 have hc:cut (mT (f.slot r).m) f.bn.keys=r:=by
  refine cut_eq_of (by rw [h.klen];omega) (fun i x hi hx=>?_) (fun x hx=>?_)
  ·rw [h.kget (by omega)] at hx
   injection hx with hx;rw [← hx,← lt_slt (h.sok (by omega)).m (h.sok hr).m];exact h.lts hi hr
  ·rw [h.kget hr] at hx
   injection hx with hx;rw [← hx,← lt_slt (h.sok hr).m (h.sok hr).m];exact lt_irr _
 exact ⟨(h.has (h.sok hr).m).2 ⟨by rw [hc];exact hr,by rw [hc]⟩,hc⟩
theorem take_snoc {α:Type} {l:List α} {x:α} (h:l[i]?=some x):l.take (i+1)=l.take i++[x]:=by
 rw [List.take_add_one,h]
 rfl
theorem insert_end {α:Type} {l:List α} {x:α} (h:l.length=j):l.insertIdx j x=l++[x]:=by
 subst h
 exact List.insertIdx_length_self
structure RHalf (f:LF) (k j:Nat) (g:LF):Prop where
 ok:LFOK g
 row:g.row=(f.row.drop k).take j
 n:g.n=j
 hi:g.hi=f.hi
 bnd:g.bnd=f.bnd
 nx:g.nx=f.nx
theorem RHalf.start (h:LFOK f) (k:Nat) (hg:LFOK g) (h0:g.n=0):RHalf f k 0 { g with hi:=f.hi,bnd:=f.bnd,nx:=f.nx }:=by
 have hrow:g.row=[]:=by unfold LF.row;rw [h0];rfl
 refine ⟨⟨hg.n,hg.o,hg.S,hg.free,?_,?_,?_,h.hi⟩,hrow,h0,rfl,rfl,rfl⟩
 ·exact hg.ok
 ·exact hg.rise
 ·intro s hs
  have:s∈g.row:=hs;rw [hrow] at this
  cases this
theorem RHalf.step (h : LFOK f) (hR : RHalf f k j g) (hj : k + j < f.n) :
    hasK (mT (f.slot (k+j)).m) g.bn.keys=false∧cut (mT (f.slot (k+j)).m) g.bn.keys=j∧g.cov (f.slot (k+j)).m=true∧g.n < 14∧RHalf f k (j+1) (g.ins j (f.slot (k+j))):=by
 have hs:=h.sok hj
 have hn:=h.n
 have hcov:g.cov (f.slot (k+j)).m=true:=by
  have:=h.cov _ (List.mem_of_getElem? (h.get hj));unfold LF.cov at this ⊢;rw [hR.hi,hR.bnd];exact this
 obtain ⟨h1,h2⟩:=hR.ok.above hs.m fun x hx=>by
  rw [hR.row] at hx;obtain ⟨i,hi⟩:=List.mem_iff_getElem?.1 hx
  have hij:i < j:=by
   have:=(List.getElem?_eq_some_iff.1 hi).1;rw [List.length_take] at this;omega
  rw [List.getElem?_take_of_lt hij,List.getElem?_drop,h.get (by omega)] at hi;injection hi with hi;rw [← hi];exact h.lts (by omega) hj
 rw [hR.n] at h2
 have hgn:g.n < 14:=by rw [hR.n];omega
 obtain ⟨h3,h4⟩:=hR.ok.put_new hs hcov hgn h1
 rw [h2] at h3
 refine ⟨h1,h2,hcov,hgn,h3,?_,by show g.n+1=j+1;rw [hR.n],hR.hi,hR.bnd,hR.nx⟩
 have hl:g.row.length=j:=by rw [hR.ok.len,hR.n]
 rw [hR.ok.row_ins (by rw [hR.n];exact Nat.le_refl _) hgn,take_snoc (x:=f.slot (k+j)) (by rw [List.getElem?_drop];exact h.get hj),← hR.row]
 exact insert_end hl
theorem RHalf.bn (h:LFOK f) (hR:RHalf f (f.n / 2) (f.n - f.n / 2) g):g.bn=f.bn.rightHalf:=by
 have hk:=h.klen
 have hd:(f.row.drop (f.n / 2)).take (f.n - f.n / 2)=f.row.drop (f.n / 2):=by
  rw [List.take_of_length_le];rw [List.length_drop,h.len];exact Nat.le_refl _
 have hm:f.bn.mid=f.n / 2:=by unfold BN.mid;rw [hk]
 have hlf:f.bn.leaf=true:=rfl
 unfold BN.rightHalf
 rw [if_pos hlf,hm]
 unfold LF.bn
 simp only
 rw [hR.row,hd,hR.hi,hR.bnd,hR.nx,List.map_drop]
structure LHalf (f:LF) (j:Nat) (g:LF):Prop where
 ok:LFOK g
 row:g.row=f.row.take j
 n:g.n=j
 hi:g.hi=f.hi
 bnd:g.bnd=f.bnd
 nx:g.nx=f.nx
 le:j≤f.n
theorem LHalf.start (h:LFOK f):LHalf f f.n f:=⟨h,by rw [List.take_of_length_le];rw [h.len];exact Nat.le_refl _,rfl,rfl,rfl,rfl,Nat.le_refl _⟩
theorem LHalf.slot (h:LFOK f) (hL:LHalf f j g) (hr:r < j):g.slot r=f.slot r:=by
 have hle:=hL.le
 have h1:=hL.ok.get (r:=r) (by rw [hL.n];exact hr)
 rw [hL.row,List.getElem?_take_of_lt hr,h.get (by omega)] at h1
 injection h1 with h1
 exact h1.symm
theorem LHalf.step (h:LFOK f) (hL:LHalf f (j+1) g):g.slot j=f.slot j∧MkOK (f.slot j).m∧hasK (mT (f.slot j).m) g.bn.keys=true∧cut (mT (f.slot j).m) g.bn.keys=j∧LHalf f j (g.del j):=by
 have hle:=hL.le
 have e:=hL.slot h (r:=j) (by omega)
 have hjn:j < g.n:=by rw [hL.n];omega
 obtain ⟨h1,h2⟩:=hL.ok.own hjn
 have hm:=(hL.ok.sok hjn).m
 obtain ⟨h3,h4⟩:=hL.ok.del hm h1
 rw [h2] at h3
 rw [e] at h1 h2 hm
 refine ⟨e,hm,h1,h2,h3,?_,by show g.n - 1=j;rw [hL.n];rfl,hL.hi,hL.bnd,hL.nx,by omega⟩
 rw [hL.ok.row_del hjn,hL.row]
 have hl:(f.row.take (j+1)).length=j+1:=by rw [List.length_take,h.len];omega
 refine List.ext_getElem? fun i=>?_
 rw [List.getElem?_eraseIdx]
 by_cases h5:i < j
 ·rw [if_pos h5,List.getElem?_take_of_lt (by omega),List.getElem?_take_of_lt h5]
 ·rw [if_neg h5,List.getElem?_eq_none (by omega),List.getElem?_eq_none (by rw [List.length_take];omega)]
def LF.ended (g:LF) (m:Mk) (nx:Hd):LF:={ g with hi:=m,bnd:=true,nx:=nx }
theorem LHalf.fin (h:LFOK f) (hk:k < f.n) (hL:LHalf f k g):LFOK (g.ended (f.slot k).m nx):=by
 refine ⟨hL.ok.n,hL.ok.o,hL.ok.S,hL.ok.free,hL.ok.ok,hL.ok.rise,fun s hs=>?_,?_⟩
 ·have hs':s∈g.row:=hs
  rw [hL.row] at hs';obtain ⟨i,hi⟩:=List.mem_iff_getElem?.1 hs'
  have hij:i < k:=by
   have:=(List.getElem?_eq_some_iff.1 hi).1;rw [List.length_take] at this;omega
  rw [List.getElem?_take_of_lt hij,h.get (by omega)] at hi;injection hi with hi
  show (!true || s.m.lt (f.slot k).m)=true
  rw [← hi,h.lts hij hk];rfl
 ·show if true=true then MkOK (f.slot k).m else _
  rw [if_pos rfl];exact (h.sok hk).m
theorem LHalf.bn (h:LFOK f) (h2:2≤f.n) (hL:LHalf f (f.n / 2) g):(g.ended (f.slot (f.n / 2)).m nx).bn=f.bn.left nx∧f.bn.sep=mT (f.slot (f.n / 2)).m:=by
 have hk:=h.klen
 have hm:f.bn.mid=f.n / 2:=by unfold BN.mid;rw [hk]
 have hs:f.bn.sep=mT (f.slot (f.n / 2)).m:=by
  unfold BN.sep;rw [hm,List.getD_eq_getElem?_getD,h.kget (by omega)];rfl
 refine ⟨?_,hs⟩
 unfold BN.left
 rw [hs,hm]
 show BN.mk true (g.row.map fun s=>mT s.m) g.row [] _ true nx=_
 rw [hL.row,List.map_take]
 rfl
end
open Go.RowKit
theorem set_end {l : List Value} {a : Nat} (hl : l.length = a) (x0 x1 x2 x3 x4 y0 y1 y2 y3 y4 : Value) :
    ((((((l++[x0,x1,x2,x3,x4]).toArray.setIfInBounds a y0).setIfInBounds (a+1) y1).setIfInBounds (a+2) y2).setIfInBounds (a+3) y3).setIfInBounds (a+4) y4)=(l++[y0,y1,y2,y3,y4]).toArray:=by
 subst hl
 simp only [zs1]
 congr 1
 rw [List.set_append_right _ _ (by omega),List.set_append_right _ _ (by omega),List.set_append_right _ _ (by omega),List.set_append_right _ _ (by omega),List.set_append_right _ _ (by omega)]
 simp
abbrev hV (h:Hd):Value:=.agg #[.int .i64 h.1,.int .u64 h.2]
def LF.ends (g:LF) (m:Mk) (b:Bool) (nx:Hd):LF:={ g with hi:=m,bnd:=b,nx:=nx }
abbrev endW (W:World) (b:Nat) (s c bn n1 n2:Value):World:=((((W.setCell ⟨b,106,none⟩ s).setCell ⟨b,107,none⟩ c).setCell ⟨b,108,none⟩ bn).setCell ⟨b,109,none⟩ n1).setCell ⟨b,110,none⟩ n2
theorem lf_ends {W : World} {b : Nat} {g : LF} (h : W.heap[b]? = some (.cells (lfc g).toArray 95)) (hS : g.S.length = 15) (m : Mk) (bn : Bool) (nx : Hd) :
    (endW W b (.int .u64 ((m.s:Nat):Int)) (.int .u8 ((m.c:Nat):Int)) (.bool bn) (.int .i64 nx.1) (.int .u64 nx.2)).heap[b]?=some (.cells (lfc (g.ends m bn nx)).toArray 95):=by
 rw [heap_set_same (heap_set_same (heap_set_same (heap_set_same (heap_set_same h 106 _) 107 _) 108 _) 109 _) 110 _]
 have hl:(Value.int .u64 ((pw g.n g.o:Nat):Int)::g.S.flatMap slc).length=106:=by rw [List.length_cons,slcs_len,hS]
 have:=set_end hl (.int .u64 ((g.hi.s:Nat):Int)) (.int .u8 ((g.hi.c:Nat):Int)) (.bool g.bnd) (.int .i64 g.nx.1) (.int .u64 g.nx.2) (.int .u64 ((m.s:Nat):Int)) (.int .u8 ((m.c:Nat):Int)) (.bool bn) (.int .i64 nx.1) (.int .u64 nx.2)
 unfold lfc LF.ends
 simp only [List.cons_append] at this ⊢
 rw [this]
theorem endW_upd (W:World) (b:Nat) (s c bn n1 n2:Value):Upd [b] W (endW W b s c bn n1 n2) :=
 (((((Upd.refl [b] W).setCell (p:=⟨b,106,none⟩) (by simp) s).setCell (p:=⟨b,107,none⟩) (by simp) c).setCell (p:=⟨b,108,none⟩) (by simp) bn).setCell (p:=⟨b,109,none⟩) (by simp) n1).setCell (p:=⟨b,110,none⟩) (by simp) n2
structure SpB (w:World) (LB HB AB BB MB:Nat) (cs:List Value) (nx:Hd) (ca cb:Array Value) (s c:Value) (W:World):Prop where
 bel:Below w.heap.size w W
 lb:W.heap[LB]?=some (.cells cs.toArray 95)
 hb:W.heap[HB]?=some (.cells #[.int .i64 nx.1,.int .u64 nx.2] 71)
 ab:W.heap[AB]?=some (.cells ca 95)
 bb:W.heap[BB]?=some (.cells cb 95)
 mb:W.heap[MB]?=some (.cells #[s,c] 90)
structure SpN (w:World) (LB HB AB BB MB:Nat):Prop where
 l:LB=w.heap.size
 h:HB=w.heap.size+1
 a:AB=w.heap.size+2
 b:BB=w.heap.size+3
 m:MB=w.heap.size+4
section
variable {w W W':World} {LB HB AB BB MB:Nat} {cs:List Value} {nx:Hd} {ca cb:Array Value} {s c:Value}
theorem SpB.below (h:SpB w LB HB AB BB MB cs nx ca cb s c W) (hb:Below W.heap.size W W'):SpB w LB HB AB BB MB cs nx ca cb s c W' :=
 ⟨h.bel.trans (hb.mono h.bel.size),Below.heap' hb h.lb,Below.heap' hb h.hb,Below.heap' hb h.ab,Below.heap' hb h.bb,Below.heap' hb h.mb⟩
theorem SpB.drew (h:SpB w LB HB AB BB MB cs nx ca cb s c W):SpB w LB HB AB BB MB cs nx ca cb s c W.drew:=h.below (Below.refl _ _).drew
theorem SpB.updA (h:SpB w LB HB AB BB MB cs nx ca cb s c W) (hN:SpN w LB HB AB BB MB) (hu:Upd [AB] W W') {ca':Array Value} (ha:W'.heap[AB]?=some (.cells ca' 95)):SpB w LB HB AB BB MB cs nx ca' cb s c W':=by
 obtain ⟨e1,e2,e3,e4,e5⟩:=hN
 exact ⟨h.bel.trans (hu.below h.bel.size fun k hk=>by rw [List.mem_singleton.1 hk];omega),hu.heap h.lb (by simp;omega),hu.heap h.hb (by simp;omega),ha,hu.heap h.bb (by simp;omega),hu.heap h.mb (by simp;omega)⟩
theorem SpB.updB (h:SpB w LB HB AB BB MB cs nx ca cb s c W) (hN:SpN w LB HB AB BB MB) (hu:Upd [BB] W W') {cb':Array Value} (ha:W'.heap[BB]?=some (.cells cb' 95)):SpB w LB HB AB BB MB cs nx ca cb' s c W':=by
 obtain ⟨e1,e2,e3,e4,e5⟩:=hN
 exact ⟨h.bel.trans (hu.below h.bel.size fun k hk=>by rw [List.mem_singleton.1 hk];omega),hu.heap h.lb (by simp;omega),hu.heap h.hb (by simp;omega),hu.heap h.ab (by simp;omega),ha,hu.heap h.mb (by simp;omega)⟩
theorem SpB.updM (h:SpB w LB HB AB BB MB cs nx ca cb s c W) (hN:SpN w LB HB AB BB MB) (s' c':Value):SpB w LB HB AB BB MB cs nx ca cb s' c' ((W.setCell ⟨MB,0,none⟩ s').setCell ⟨MB,1,none⟩ c'):=by
 obtain ⟨e1,e2,e3,e4,e5⟩:=hN
 have hu:Upd [MB] W ((W.setCell ⟨MB,0,none⟩ s').setCell ⟨MB,1,none⟩ c'):=((Upd.refl [MB] W).setCell (p:=⟨MB,0,none⟩) (by simp) s').setCell (p:=⟨MB,1,none⟩) (by simp) c'
 exact ⟨h.bel.trans (hu.below h.bel.size fun k hk=>by rw [List.mem_singleton.1 hk];omega),hu.heap h.lb (by simp;omega),hu.heap h.hb (by simp;omega),hu.heap h.ab (by simp;omega),hu.heap h.bb (by simp;omega),by rw [heap_set_same (heap_set_same h.mb 0 _) 1 _];rfl⟩
theorem SpB.setA (h:SpB w LB HB AB BB MB cs nx ca cb s c W) (hN:SpN w LB HB AB BB MB) {vs:List Value} (hl:vs.length=ca.size):SpB w LB HB AB BB MB cs nx vs.toArray cb s c (W.setCells AB 0 vs):=h.updA hN (hb_upd W AB 0 vs) (hb_wholeA h.ab hl)
theorem SpB.setB (h:SpB w LB HB AB BB MB cs nx ca cb s c W) (hN:SpN w LB HB AB BB MB) {vs:List Value} (hl:vs.length=cb.size):SpB w LB HB AB BB MB cs nx ca vs.toArray s c (W.setCells BB 0 vs):=h.updB hN (hb_upd W BB 0 vs) (hb_wholeA h.bb hl)
theorem SpB.start (w : World) (cs : List Value) (nx : Hd) : SpB w w.heap.size (w.heap.size + 1) (w.heap.size + 2) (w.heap.size + 3) (w.heap.size + 4) cs nx Tryz.zeroCells95 Tryz.zeroCells95 (.int .u64 0) (.int .u8 0)
    (((((w.alloc (.cells cs.toArray 95)).alloc (.cells #[.int .i64 nx.1,.int .u64 nx.2] 71)).alloc (.cells Tryz.zeroCells95 95)).alloc (.cells Tryz.zeroCells95 95)).alloc (.cells #[.int .u64 0,.int .u8 0] 90)):=by
 have e1:(w.alloc (.cells cs.toArray 95)).heap.size=w.heap.size+1:=by simp
 have e2:((w.alloc (.cells cs.toArray 95)).alloc (.cells #[.int .i64 nx.1,.int .u64 nx.2] 71)).heap.size=w.heap.size+2:=by simp
 have e3:(((w.alloc (.cells cs.toArray 95)).alloc (.cells #[.int .i64 nx.1,.int .u64 nx.2] 71)).alloc (.cells Tryz.zeroCells95 95)).heap.size=w.heap.size+3:=by simp
 have e4:((((w.alloc (.cells cs.toArray 95)).alloc (.cells #[.int .i64 nx.1,.int .u64 nx.2] 71)).alloc (.cells Tryz.zeroCells95 95)).alloc (.cells Tryz.zeroCells95 95)).heap.size=w.heap.size+4:=by simp
 refine ⟨(((((Below.refl w.heap.size w).alloc (Nat.le_refl _) _).alloc (by simp) _).alloc (by simp;omega) _).alloc (by simp;omega) _).alloc (by simp;omega) _,?_,?_,?_,?_,?_⟩
 ·exact heap_alloc_old _ (heap_alloc_old _ (heap_alloc_old _ (heap_alloc_old _ (heap_alloc_new _ _))))
 ·rw [← e1];exact heap_alloc_old _ (heap_alloc_old _ (heap_alloc_old _ (heap_alloc_new _ _)))
 ·rw [← e2];exact heap_alloc_old _ (heap_alloc_old _ (heap_alloc_new _ _))
 ·rw [← e3];exact heap_alloc_old _ (heap_alloc_new _ _)
 ·rw [← e4];exact heap_alloc_new _ _
end
theorem sz_set {W:World} {b o:Nat} {c:Array Value} (h:W.heap[b]?=some (.cells c 95)) (hs:c.size=111) (vs:List Value) (hl:o+vs.length≤111):∃ c',c'.size=111∧(W.setCells b o vs).heap[b]?=some (.cells c' 95):=by
 refine ⟨_,?_,heap_setCells vs o c W h (by omega)⟩
 simp only [List.size_toArray,List.length_append,List.length_take,List.length_drop,Array.length_toList]
 omega
theorem sz_set1 {W:World} {b o:Nat} {c:Array Value} (h:W.heap[b]?=some (.cells c 95)) (hs:c.size=111) (v:Value):∃ c',c'.size=111∧(W.setCell ⟨b,o,none⟩ v).heap[b]?=some (.cells c' 95) :=
 ⟨_,by rw [Array.size_setIfInBounds,hs],heap_set_same h o v⟩
theorem sz_cell {W:World} {b o:Nat} {c:Array Value} (h:W.heap[b]?=some (.cells c 95)) (hs:c.size=111) (ho:o < 111):(∃ v,W.cell? ⟨b,o,none⟩=some v)∧W.frozen? ⟨b,o,none⟩=false∧b < W.heap.size :=
 ⟨⟨_,by rw [cell_of_heap h,Array.getElem?_eq_getElem (by omega)]⟩,frozen_of_heap h o,heap_lt h⟩
theorem SpB.updX {w W W':World} {LB HB AB BB MB x:Nat} {cs:List Value} {nx:Hd} {ca cb:Array Value} {s c:Value} (h:SpB w LB HB AB BB MB cs nx ca cb s c W) (hN:SpN w LB HB AB BB MB) (hx:MB < x) (hu:Upd [x] W W'):SpB w LB HB AB BB MB cs nx ca cb s c W':=by
 obtain ⟨e1,e2,e3,e4,e5⟩:=hN
 exact ⟨h.bel.trans (hu.below h.bel.size fun k hk=>by rw [List.mem_singleton.1 hk];omega),hu.heap h.lb (by simp;omega),hu.heap h.hb (by simp;omega),hu.heap h.ab (by simp;omega),hu.heap h.bb (by simp;omega),hu.heap h.mb (by simp;omega)⟩
theorem leaf_there {W:World} {b:Nat} {c:Array Value} {vs:List Value} (h:W.heap[b]?=some (.cells c 95)) (hs:c.size=111) (hl:vs.length=111):W.there b 0 vs.toArray.size:=hb_thereA h (by rw [List.size_toArray];omega)
set_option maxRecDepth 100000 in
set_option maxHeartbeats 6000000 in
theorem lfSplit_any (f : LF) (h : LFOK f) (h2 : 2 ≤ f.n) (nx : Hd) (w : World) :
    Calls Tryz.prog 144 #[lfV f,hV nx] w fun e w'=>∃ l r,e=.returned (.tuple #[lfV l,lfV r,mkV (f.slot (f.n / 2)).m])∧Below w.heap.size w w'∧LFOK l∧LFOK r∧l.bn=f.bn.left nx∧r.bn=f.bn.rightHalf:=by
 have hn:=h.n
 have hl:=lfc_len h.S
 have hLn:=qh fun W=>lfLen_any f h W
 have hRt:=qh fun W=>lfRight_any f h W
 have hNw:=qh fun W=>lfNew_any W
 have hAt:=qh fun i (hi:i≤f.n) W=>lfAt_any f h i hi W
 have hN0:=newLF_ok
 have hln:=lfc_len hN0.S
 have hcell:=qh fun (W:World) (b:Nat) (hb:W.heap[b]?=some (.cells (lfc f).toArray 95))=>(lf_heap hb h.S).2
 have hone:=lfc_one f
 have honen:=lfc_one newLF
 obtain ⟨cn,hcn⟩:∃ cs,cs=lfc newLF:=⟨_,rfl⟩
 have hNw2:Hid (∀ W,Calls Tryz.prog 91 #[] W fun e w'=>e=.returned (.agg cn.toArray)∧Below W.heap.size W w'):=qh (by rw [hcn];exact hNw.out)
 rw [← hcn] at hln honen
 obtain ⟨cs,hcs⟩:∃ cs,cs=lfc f:=⟨_,rfl⟩
 unfold lfV at hLn hRt hAt
 have hgo:Calls Tryz.prog 144 #[.agg cs.toArray,.agg #[.int .i64 nx.1,.int .u64 nx.2]] w fun e w'=>∃ l r,e=.returned (.tuple #[lfV l,lfV r,mkV (f.slot (f.n / 2)).m])∧Below w.heap.size w w'∧LFOK l∧LFOK r∧l.bn=f.bn.left nx∧r.bn=f.bn.rightHalf:=?_
 ·rw [hcs] at hgo;exact hgo
 rw [← hcs] at hl hLn hRt hAt hcell hone
 have hB0:=SpB.start w cs nx
 obtain ⟨W0,hW0⟩:∃ W0,W0=((((w.alloc (.cells cs.toArray 95)).alloc (.cells #[.int .i64 nx.1,.int .u64 nx.2] 71)).alloc (.cells Tryz.zeroCells95 95)).alloc (.cells Tryz.zeroCells95 95)).alloc (.cells #[.int .u64 0,.int .u8 0] 90):=⟨_,rfl⟩
 rw [← hW0] at hB0
 have hr0:=qh (range_of_heap hB0.lb)
 obtain ⟨n,hne⟩:∃ n,n=f.n:=⟨_,rfl⟩
 rw [← hne] at hLn h2 hn
 replace hl:=qh hl
 replace hln:=qh hln
 replace hone:=qh hone
 replace honen:=qh honen
 replace hcs:=qh hcs
 replace hcn:=qh hcn
 replace hne:=qh hne
 replace hB0:=qh hB0
 replace h:=qh h
 replace hN0:=qh hN0
 clear hNw
 have g2:¬ (n:Int) < 2:=by omega
 have g2d:decide ((n:Int) < 2)=false:=by simp;omega
 obtain ⟨n1,n2⟩:=nx
 simp only at hB0 hW0 ⊢
 go_enter Tryz.func144,Tryz.ntmps144
 go_upto_region 1 with fail
 rw [← hW0]
 replace hW0:=qh hW0
 simp only [show w.heap.size+1+1=w.heap.size+2 from rfl,show w.heap.size+2+1=w.heap.size+3 from rfl,show w.heap.size+3+1=w.heap.size+4 from rfl]
 obtain ⟨MB,hMB⟩:∃ b,b=w.heap.size+4:=⟨_,rfl⟩
 obtain ⟨BB,hBB⟩:∃ b,b=w.heap.size+3:=⟨_,rfl⟩
 obtain ⟨AB,hAB⟩:∃ b,b=w.heap.size+2:=⟨_,rfl⟩
 obtain ⟨HB,hHB⟩:∃ b,b=w.heap.size+1:=⟨_,rfl⟩
 obtain ⟨LB,hLB⟩:∃ b,b=w.heap.size:=⟨_,rfl⟩
 rw [← hMB,← hBB,← hAB,← hHB,← hLB] at hB0 ⊢
 rw [← hLB] at hr0
 have hN:Hid (SpN w LB HB AB BB MB):=qh ⟨hLB,hHB,hAB,hBB,hMB⟩
 clear hLB hHB hAB hBB hMB
 go_wp2_with (refine wpList_load_mid rfl 95 (.tmp 2) rfl LB 0 (by rfl) cs _ hr0.out Tryz.underlying95 rfl (by rw [hl.out];kernel_rfl) ?_)
 refine (hLn.out _).mono ?_
 rintro e W1 ⟨rfl,hb⟩
 have hB1:=qh (hB0.out.below hb)
 have hr1:=qh (range_of_heap hB1.out.lb)
 clear hb hB0 hr0
 go_wp2_with (refine wpList_load_midg (by rfl) 95 (.tmp 2) rfl LB 0 (by rfl) cs _ hr1.out Tryz.underlying95 rfl (by rw [hl.out];kernel_rfl) ?_)
 refine (hRt.out _).mono ?_
 rintro e W2 ⟨rfl,hb⟩
 have hB2:=qh (hB1.out.below hb)
 clear hb hB1 hr1 g2 g2d
 go_upto_region 4 with fail
 have hB3:=qh hB2.out.drew
 refine wp_region_held_drew (S:=fun W'=>W'.heap[LB]?=some (.cells cs.toArray 95)) rfl hB3.out.lb (fun hHeld=>?_)
 refine ykL 0 ?_ (hy:=yieldsIf_load_mid (by rfl) 95 (.tmp 2) rfl LB 0 (by rfl) cs _ (fun w hw=>range_of_heap hw) Tryz.underlying95 rfl (by rw [hl.out];kernel_rfl))
 refine rdL 1 ?_
 intro K hK
 go_simp
 go_at_call 91
 refine (hNw2.out _).mono ?_
 rintro z W3 ⟨rfl,hb⟩
 have hB4:=qh (hB3.out.below hb)
 clear hb hB3 hB2
 go_wp2_with fail
 have hS1:=hB4.out.lb
 refine hK.out _ _ hS1 (fun _=>?_)
 clear hHeld hK K
 have hHeld:=hS1
 clear hS1
 try simp only [Act.put,zs1,zs2,zs3]
 refine rdL 2 ?_
 intro K hK
 rw [if_pos (by rfl)]
 have th1:=leaf_there hB4.out.ab zero_leaf hl.out
 refine wp_store_mid 95 (.tmp 4) (.tmp 25) rfl AB 0 cs.toArray (by rfl) (by rfl) th1 (by rw [List.size_toArray,hl.out];kernel_rfl) hone.out ?_
 have hB5:=qh (hB4.out.setA hN.out (vs:=cs) (by rw [zero_leaf,hl.out]))
 have hS1:=hB5.out.lb
 clear th1 hB4
 refine hK.out _ _ hS1 (fun _=>?_)
 clear hHeld hK K
 have hHeld:=hS1
 clear hS1
 try simp only [Act.put]
 refine rdL 3 ?_
 intro K hK
 rw [if_pos (by rfl)]
 have th1:=leaf_there hB5.out.bb zero_leaf hln.out
 refine wp_store_mid 95 (.tmp 5) (.tmp 26) rfl BB 0 cn.toArray (by rfl) (by rfl) th1 (by rw [List.size_toArray,hln.out];kernel_rfl) honen.out ?_
 have hB6:=qh (hB5.out.setB hN.out (vs:=cn) (by rw [zero_leaf,hln.out]))
 have hS1:=hB6.out.lb
 clear th1 hB5
 refine hK.out _ _ hS1 (fun _=>?_)
 clear hHeld hK K
 have hHeld:=hS1
 clear hS1
 try simp only [Act.put]
 refine wpAnyH_done (by kernel_rfl) ?_ _
 try simp only [Exit.then]
 clear hHeld
 obtain ⟨W6,hW6⟩:∃ X,X=(W3.setCells AB 0 cs).setCells BB 0 cn:=⟨_,rfl⟩
 try simp only [List.toList_toArray]
 rw [← hW6] at hB6 ⊢
 clear hW6
 go_upto_region 5 with fail
 have hB7:=qh hB6.out.drew
 have hkeep:Hid (∀ (X X2:World),Upd [BB] X X2→X.heap[LB]?=some (.cells cs.toArray 95)→X2.heap[LB]?=some (.cells cs.toArray 95)):=qh fun X X2 hu hx=>hu.heap hx (by have e1:=hN.out.l;have e2:=hN.out.b;simp;omega)
 refine wp_region_held_drew (S:=fun W'=>W'.heap[LB]?=some (.cells cs.toArray 95)) rfl hB7.out.lb (fun hHeld=>?_)
 refine tkL 0 ?_
 refine tkL 1 ?_ (hz:=by intro w hSw;(try dsimp only at hSw);obtain ⟨e1,e2,e3,e4,e5⟩:=hcell.out _ _ hSw;exact zf)
 refine tkL 2 ?_
 refine tkL 3 ?_ (hz:=by intro w hSw;(try dsimp only at hSw);obtain ⟨e1,e2,e3,e4,e5⟩:=hcell.out _ _ hSw;exact zf)
 refine tkL 4 ?_
 refine tkL 5 ?_ (hz:=by intro w hSw;(try dsimp only at hSw);obtain ⟨e1,e2,e3,e4,e5⟩:=hcell.out _ _ hSw;exact zf)
 have kb:Hid (∃ c,c.size=111∧W6.drew.heap[BB]?=some (.cells c 95)):=qh ⟨_,by rw [List.size_toArray,hln.out],hB7.out.bb⟩
 refine tkL 6 ?_
 refine rdL 7 ?_
 intro K hK
 rw [if_pos (by rfl)]
 obtain ⟨c0,z0,kb0⟩:=kb.out
 refine wp_store_mid 90 (.tmp 33) (.tmp 28) rfl BB 106 #[.int .u64 ((f.hi.s:Nat):Int),.int .u8 ((f.hi.c:Nat):Int)] (by rfl) (by rfl) (hb_thereA kb0 (by rw [z0];simp)) (by kernel_rfl) (by kernel_rfl) ?_
 have kb1:=qh (sz_set (o:=106) kb0 z0 [.int .u64 ((f.hi.s:Nat):Int),.int .u8 ((f.hi.c:Nat):Int)] (by simp))
 have hS1:=hkeep.out _ _ (hb_upd _ BB 106 [.int .u64 ((f.hi.s:Nat):Int),.int .u8 ((f.hi.c:Nat):Int)]) hHeld
 clear kb c0 z0 kb0
 refine hK.out _ _ hS1 (fun _=>?_)
 clear hHeld hK K
 have hHeld:=hS1
 clear hS1
 try simp only [Act.put]
 refine tkL 8 ?_
 refine rdL 9 ?_
 intro K hK
 obtain ⟨c0,z0,kb0⟩:=kb1.out
 obtain ⟨⟨v0,y0⟩,y1,y2⟩:=sz_cell (o:=108) kb0 z0 (by omega)
 have kb:=qh (sz_set1 (o:=108) kb0 z0 (.bool f.bnd))
 replace kb0:=qh kb0
 go_simp
 have hS1:=hkeep.out _ _ ((Upd.refl [BB] _).setCell (p:=⟨BB,108,none⟩) (by simp) (.bool f.bnd)) hHeld
 clear kb1 c0 z0 kb0 y0 y1 y2
 refine hK.out _ _ hS1 (fun _=>?_)
 clear hHeld hK K
 have hHeld:=hS1
 clear hS1
 try simp only [Act.put]
 refine tkL 10 ?_
 refine rdL 11 ?_
 intro K hK
 rw [if_pos (by rfl)]
 obtain ⟨c0,z0,kb0⟩:=kb.out
 refine wp_store_mid 71 (.tmp 35) (.tmp 32) rfl BB 109 #[.int .i64 f.nx.1,.int .u64 f.nx.2] (by rfl) (by rfl) (hb_thereA kb0 (by rw [z0];simp)) (by kernel_rfl) (by kernel_rfl) ?_
 have hS1:=hkeep.out _ _ (hb_upd _ BB 109 [.int .i64 f.nx.1,.int .u64 f.nx.2]) hHeld
 clear kb c0 z0 kb0
 refine hK.out _ _ hS1 (fun _=>?_)
 clear hHeld hK K
 have hHeld:=hS1
 clear hS1
 try simp only [Act.put]
 clear hHeld hkeep
 have hB8:=qh (hB7.out.updB hN.out (endW_upd W6.drew BB (.int .u64 ((f.hi.s:Nat):Int)) (.int .u8 ((f.hi.c:Nat):Int)) (.bool f.bnd) (.int .i64 f.nx.1) (.int .u64 f.nx.2)) (lf_ends (g:=newLF) (by rw [← hcn.out];exact hB7.out.bb) hN0.out.S f.hi f.bnd f.nx))
 have hR0:=qh (RHalf.start h.out (n / 2) hN0.out rfl)
 refine wpAnyH_done (by kernel_rfl) ?_ _
 try simp only [Exit.then]
 obtain ⟨W8,hW8⟩:∃ X,X=((W6.drew.setCells BB 106 [.int .u64 ((f.hi.s:Nat):Int),.int .u8 ((f.hi.c:Nat):Int)]).setCell ⟨BB,108,none⟩ (.bool f.bnd)).setCells BB 109 [.int .i64 f.nx.1,.int .u64 f.nx.2]:=⟨_,rfl⟩
 try simp only [List.toList_toArray]
 rw [← hW8]
 have hB9:Hid (SpB w LB HB AB BB MB cs (n1,n2) cs.toArray (lfc (newLF.ends f.hi f.bnd f.nx)).toArray (.int .u64 0) (.int .u8 0) W8):=qh (by rw [hW8];exact hB8.out)
 clear hB8 hB7 hB6 hW8
 obtain ⟨M,hM⟩:∃ M,M=n / 2:=⟨_,rfl⟩
 have hdq:(n:Int).tdiv 2=(M:Int):=by rw [Int.tdiv_eq_ediv_of_nonneg (by omega)];omega
 have hdv:(n:Int) / 2=(M:Int):=by omega
 have hwM:IntKind.i64.wrap (M:Int)=(M:Int):=IntWalk.i64_in _ (by omega)
 have hM2:1≤M∧M < n:=by omega
 rw [← hM] at hR0
 replace hM:=qh hM
 go_wp2_with fail
 go_loopg [8] (n - M) (fun gk v8 wr=>∃ (j:Nat) (g:LF),gk=n - M - j∧j≤n - M∧v8=.int .i64 ((M+j:Nat):Int)∧RHalf f M j g∧SpB w LB HB AB BB MB cs (n1,n2) cs.toArray (lfc g).toArray (.int .u64 0) (.int .u8 0) wr)
 case atStart=>exact ⟨0,_,rfl,Nat.zero_le _,rfl,hR0.out,hB9.out⟩
 case round =>
  obtain ⟨j,g,rfl,hj,rfl,hR,hB⟩:=hrel;clear hB9 hR0;by_cases hlt:j < n - M
  ·have hlt2:((M+j:Nat):Int) < (n:Int):=by omega
   have hnf:=hne.out;obtain ⟨q1,q2,q3,q4,hR2⟩:=hR.step h.out (j:=j) (k:=M) (by omega);have hs:=h.out.sok (r:=M+j) (by omega);have hP:=fun W=>lfPut_new g hR.ok (f.slot (M+j)) hs q3 q4 q1 W
   rw [q2] at hP;have hA:=fun W=>hAt.out (M+j) (by omega) W
   rw [decide_eq_true (show M+j < f.n by omega)] at hA;have hlg:=lfc_len hR.ok.S;have hlg2:=lfc_len hR2.ok.S;have hog2:=lfc_one (g.ins j (f.slot (M+j)));clear q1 q2 q3 q4 hs hnf;obtain ⟨⟨⟨S,C⟩,r,v,d,⟨l1,l2⟩⟩,hse⟩:∃ s,s=f.slot (M+j):=⟨_,rfl⟩;rw [← hse] at hP hA hR2 hlg2 hog2;unfold lfV at hP;unfold slV at hP hA;rw [show zeroSl=⟨⟨0,0⟩,s0,s0,false,(0,0)⟩ from rfl] at hP;simp only at hP hA;obtain ⟨cg2,hcg2⟩:∃ c,c=lfc (g.ins j ⟨⟨S,C⟩,r,v,d,(l1,l2)⟩):=⟨_,rfl⟩;rw [← hcg2] at hP hlg2 hog2;obtain ⟨cg,hcg⟩:∃ c,c=lfc g:=⟨_,rfl⟩;rw [← hcg] at hP hB hlg;have hr1:=qh (range_of_heap hB.lb);replace hB:=qh hB;replace hP:=qh hP;replace hA:=qh hA;replace hR:=qh hR;replace hR2:=qh hR2;replace hse:=qh hse;replace hcg:=qh hcg;replace hcg2:=qh hcg2;replace hlg:=qh hlg;replace hlg2:=qh hlg2;replace hog2:=qh hog2
   go_wp2_with (refine wpList_load_mid rfl 95 (.tmp 2) rfl LB 0 (by rfl) cs _ hr1.out Tryz.underlying95 rfl (by rw [hl.out];kernel_rfl) ?_)
   refine (hA.out _).mono ?_;rintro e X1 ⟨rfl,hb⟩;have hB2:=qh (hB.out.below hb);clear hb hr1;go_upto_region 10 with fail;have hx:=heap_alloc_new X1 (.cells #[.int .u64 ((S:Nat):Int),.int .u8 ((C:Nat):Int),.string r,.string v,.bool d,.int .i64 l1,.int .u64 l2] 92);have hB3:=hB2.out.below ((Below.refl X1.heap.size X1).alloc (Nat.le_refl _) (.cells #[.int .u64 ((S:Nat):Int),.int .u8 ((C:Nat):Int),.string r,.string v,.bool d,.int .i64 l1,.int .u64 l2] 92));obtain ⟨X2,hX2⟩:∃ X,X=X1.alloc (.cells #[.int .u64 ((S:Nat):Int),.int .u8 ((C:Nat):Int),.string r,.string v,.bool d,.int .i64 l1,.int .u64 l2] 92):=⟨_,rfl⟩;rw [← hX2] at hx hB3 ⊢;obtain ⟨xb,hxb⟩:∃ b,b=X1.heap.size:=⟨_,rfl⟩;rw [← hxb] at hx ⊢;obtain ⟨a0,a1,a2,a3,a4,a5,a6,aq⟩:=box7 hx;have hr3:=qh (range_of_heap hB3.bb);replace hX2:=qh hX2;replace hxb:=qh hxb;replace hx:=qh hx;replace hB3:=qh hB3;clear hB2
   go_wp2_with (refine wpList_load_mid rfl 95 (.tmp 5) rfl BB 0 (by rfl) cg _ hr3.out Tryz.underlying95 rfl (by rw [hlg.out];kernel_rfl) ?_)
   refine (hP.out _).mono ?_;rintro e X3 ⟨rfl,hb⟩;have hB4:=hB3.out.below hb;have th1:=qh (leaf_there (vs:=cg2) hB4.bb (by rw [List.size_toArray];exact hlg.out) hlg2.out);have hB5:=qh (hB4.setB hN.out (vs:=cg2) (by rw [List.size_toArray,hlg.out,hlg2.out]));clear a0 a1 a2 a3 a4 a5 a6 aq hr3 hB3 hb hB4;have hw1:IntKind.i64.wrap ((M:Int)+(j:Int)+1)=(M:Int)+(j:Int)+1:=IntWalk.i64_in _ (by omega)
   go_wp2_with (refine wpList_store_mid rfl 95 (.tmp 5) (.tmp 53) rfl BB 0 cg2.toArray (by rfl) (by rfl) th1.out (by rw [List.size_toArray,hlg2.out];kernel_rfl) hog2.out ?_)
   go_roundg (n - M - (j+1))
   case rel=>exact ⟨j+1,_,rfl,by omega,by go_num,hR2.out,by rw [← hcg2.out];exact hB5.out⟩
   case measure=>omega
  ·obtain rfl:j=n - M:=by omega
   have hgR:Hid (LFOK g∧g.bn=f.bn.rightHalf):=qh ⟨hR.ok,by
    have e1:=hne.out;have e2:=hM.out;subst e1 e2
    exact hR.bn h.out⟩
   have hlg:=lfc_len hR.ok.S;have hog:=lfc_one g;clear hlt hj;obtain ⟨cg,hcg⟩:∃ c,c=lfc g:=⟨_,rfl⟩;rw [← hcg] at hB hlg hog;replace hlg:=qh hlg;replace hog:=qh hog;replace hcg:=qh hcg;replace hB:=qh hB;have hL0:Hid (LHalf f n f):=qh (by rw [hne.out];exact LHalf.start h.out);clear hR hAt;obtain ⟨wq,hwq⟩:∃ x,x=wr:=⟨_,rfl⟩;rw [← hwq] at hB ⊢;clear hwq;go_wp2_with fail
   go_loopg [11] (n - M) (fun gk _v11 wr=>∃ (j:Nat) (q:LF) (sm:Mk),gk=j - M∧M≤j∧j≤n∧LHalf f j q∧(j < n→sm=(f.slot j).m)∧SpB w LB HB AB BB MB cs (n1,n2) (lfc q).toArray cg.toArray (.int .u64 ((sm.s:Nat):Int)) (.int .u8 ((sm.c:Nat):Int)) wr)
   case atStart=>exact ⟨n,f,⟨0,0⟩,rfl,by omega,Nat.le_refl _,hL0.out,fun hh=>absurd hh (Nat.lt_irrefl _),by rw [← hcs.out];exact hB.out⟩
   case round =>
    obtain ⟨j,q,sm,rfl,hjM,hjn,hL,hsm,hB1⟩:=hrel;clear hB hL0;have hLq:=fun W=>lfLen_any q hL.ok W
    rw [hL.n] at hLq;have hlq:=lfc_len hL.ok.S;have hAq:=fun i (hi:i≤q.n) W=>lfAt_any q hL.ok i hi W
    unfold lfV at hLq hAq;obtain ⟨cq,hcq⟩:∃ c,c=lfc q:=⟨_,rfl⟩;rw [← hcq] at hLq hlq hAq hB1;have hr1:=qh (range_of_heap hB1.ab);replace hcq:=qh hcq;replace hlq:=qh hlq;replace hLq:=qh hLq;replace hAq:=qh hAq;replace hB1:=qh hB1;replace hL:=qh hL;replace hsm:=qh hsm;by_cases hlt:M < j
    ·have g1:(M:Int) < (j:Int):=by omega
     clear hlt;obtain ⟨i,rfl⟩:∃ i,j=i+1:=⟨j - 1,by omega⟩;obtain ⟨t1,t2,t3,t4,t5⟩:=hL.out.step h.out;have hDl:=fun W=>lfDelete_any q hL.out.ok (f.slot i).m t2 t3 W
     rw [t4,t1] at hDl;have hA:=fun W=>hAq.out i (by rw [hL.out.n];omega) W
     rw [t1,decide_eq_true (show i < q.n by rw [hL.out.n];omega)] at hA;have hlq2:=lfc_len t5.ok.S;have hoq2:=lfc_one (q.del i);clear t1 t2 t3 t4 hAq;obtain ⟨⟨⟨S,C⟩,r,v,d,⟨l1,l2⟩⟩,hse⟩:∃ s,s=f.slot i:=⟨_,rfl⟩;rw [← hse] at hDl hA;unfold lfV at hDl;unfold mkV slV at hDl;unfold slV at hA;simp only at hDl hA;obtain ⟨cq2,hcq2⟩:∃ c,c=lfc (q.del i):=⟨_,rfl⟩;rw [← hcq2] at hDl hlq2 hoq2;rw [← hcq.out] at hDl;have hwi:IntKind.i64.wrap (((i:Int)+1) - 1)=(i:Int):=by rw [show ((i:Int)+1) - 1=(i:Int) by omega];exact IntWalk.i64_in _ (by omega)
     replace t5:=qh t5;replace hDl:=qh hDl;replace hA:=qh hA;replace hse:=qh hse;replace hcq2:=qh hcq2;replace hlq2:=qh hlq2;replace hoq2:=qh hoq2
     go_wp2_with (refine wpList_load_mid rfl 95 (.tmp 4) rfl AB 0 (by rfl) cq _ hr1.out Tryz.underlying95 rfl (by rw [hlq.out];kernel_rfl) ?_)
     refine (hLq.out _).mono ?_;rintro e Y1 ⟨rfl,hb⟩;have hB2:=qh (hB1.out.below hb);clear hb hr1 hB1;go_upto_region 12 with fail;go_cut [11,12] from 56 to 78 (fun v11 v12 wz=>∃ xb,v11=.pointer (some ⟨xb,0,none⟩)∧v12=.bool true∧SpB w LB HB AB BB MB cs (n1,n2) cq.toArray cg.toArray (.int .u64 ((sm.s:Nat):Int)) (.int .u8 ((sm.c:Nat):Int)) wz∧wz.heap[xb]?=some (.cells #[.int .u64 ((S:Nat):Int),.int .u8 ((C:Nat):Int),.string r,.string v,.bool d,.int .i64 l1,.int .u64 l2] 92))
     case first =>
      have hB3:=qh hB2.out.drew;have hwi2:IntKind.i64.wrap (i:Int)=(i:Int):=IntWalk.i64_in _ (by omega);refine wp_region_held_drew (S:=fun W'=>W'.heap[AB]?=some (.cells cq.toArray 95)) rfl hB3.out.ab (fun hHeld=>?_);refine ykL 0 ?_ (hy:=yieldsIf_load_mid (by rfl) 95 (.tmp 4) rfl AB 0 (by rfl) cq _ (fun w hw=>range_of_heap hw) Tryz.underlying95 rfl (by rw [hlq.out];kernel_rfl));refine ykL 1 ?_ (hy:=yieldsIf_load_mid (by rfl) 95 (.tmp 4) rfl AB 0 (by rfl) cq _ (fun w hw=>range_of_heap hw) Tryz.underlying95 rfl (by rw [hlq.out];kernel_rfl));refine wpAnyH_ready (rs:=[2,8]) (by kernel_rfl) (by simp) ?_;refine (AllReadyH.cons rfl (fun K hK=>?_) (AllReadyH.cons rfl (fun K hK=>?_) AllReadyH.nil))
      ·skip
       go_simp;go_at_call 101;refine (hLq.out _).mono ?_;rintro z Y2 ⟨rfl,hb⟩;have hB4:=qh (hB3.out.below hb);clear hb;go_wp2_with fail;have hS1:=hB4.out.ab;refine hK.out _ _ hS1 (fun _=>?_);clear hHeld hK K;have hHeld:=hS1;clear hS1
       try simp only [Act.put,zs1,zs2,zs3]
       refine tkL 3 ?_;refine wpAnyH_ready (rs:=[4,8]) (by kernel_rfl) (by simp) ?_;refine (AllReadyH.cons rfl (fun K hK=>?_) (AllReadyH.cons rfl (fun K hK=>?_) AllReadyH.nil))
       ·skip
        go_simp;go_at_call 54;refine (hA.out _).mono ?_;rintro z Y3 ⟨rfl,hb⟩;have hB5:=qh (hB4.out.below hb);clear hb;go_wp2_with fail;have hS1:=hB5.out.ab;refine hK.out _ _ hS1 (fun _=>?_);clear hHeld hK K;have hHeld:=hS1;clear hS1
        try simp only [Act.put,zs1,zs2,zs3]
        refine tkL 5 ?_;refine tkL 6 ?_;refine tkL 7 ?_;refine rdL 8 ?_;intro K hK;go_simp;have hx:=heap_alloc_new Y3 (.cells #[.int .u64 0,.int .u8 0,.string ⟨#[]⟩,.string ⟨#[]⟩,.bool false,.int .i64 0,.int .u64 0] 92);have hB6:=hB5.out.below ((Below.refl Y3.heap.size Y3).alloc (Nat.le_refl _) (.cells #[.int .u64 0,.int .u8 0,.string ⟨#[]⟩,.string ⟨#[]⟩,.bool false,.int .i64 0,.int .u64 0] 92));have hxl:MB < Y3.heap.size:=heap_lt hB5.out.mb;obtain ⟨Y4,hWn⟩:∃ X,X=Y3.alloc (.cells #[.int .u64 0,.int .u8 0,.string ⟨#[]⟩,.string ⟨#[]⟩,.bool false,.int .i64 0,.int .u64 0] 92):=⟨_,rfl⟩;rw [← hWn] at hx hB6 ⊢;clear hWn;obtain ⟨xb,hxb⟩:∃ b,b=Y3.heap.size:=⟨_,rfl⟩;rw [← hxb] at hx hxl ⊢;clear hxb;replace hB6:=qh hB6;replace hxl:=qh hxl;replace hx:=qh hx;have hS1:=hB6.out.ab;refine hK.out _ _ hS1 (fun _=>?_);clear hHeld hK K;have hHeld:=hS1;clear hS1
        try simp only [Act.put,zs1,zs2,zs3]
        refine rdL 9 ?_;intro K hK;obtain ⟨a0,a1,a2,a3,a4,a5,a6,aq⟩:=box7 hx.out;have af:=frozen_of_heap hx.out;obtain ⟨hz1,hz2⟩:=set7 hx.out (.int .u64 ((S:Nat):Int)) (.int .u8 ((C:Nat):Int)) (.string r) (.string v) (.bool d) (.int .i64 l1) (.int .u64 l2);have hBz:=qh (hB6.out.updX hN.out hxl.out hz2);have hS1:=hBz.out.ab;simp only [set7w] at hS1;replace hz1:=qh hz1;replace hS1:=qh hS1;clear hz2;go_simp;replace hS1:=hS1.out;clear a0 a1 a2 a3 a4 a5 a6 aq af;refine hK.out _ _ hS1 (fun _=>?_);clear hHeld hK K;have hHeld:=hS1;clear hS1
        try simp only [Act.put]
        refine tkL 10 ?_;refine wpAnyH_done (by kernel_rfl) ?_ _
        try simp only [Exit.then]
        go_wp2_with fail;go_meet;exact ⟨xb,rfl,rfl,hBz.out,hz1.out⟩
       ·skip
        go_simp;have hx:=heap_alloc_new Y2 (.cells #[.int .u64 0,.int .u8 0,.string ⟨#[]⟩,.string ⟨#[]⟩,.bool false,.int .i64 0,.int .u64 0] 92);have hB5:=hB4.out.below ((Below.refl Y2.heap.size Y2).alloc (Nat.le_refl _) (.cells #[.int .u64 0,.int .u8 0,.string ⟨#[]⟩,.string ⟨#[]⟩,.bool false,.int .i64 0,.int .u64 0] 92));have hxl:MB < Y2.heap.size:=heap_lt hB4.out.mb;obtain ⟨Y3,hWn⟩:∃ X,X=Y2.alloc (.cells #[.int .u64 0,.int .u8 0,.string ⟨#[]⟩,.string ⟨#[]⟩,.bool false,.int .i64 0,.int .u64 0] 92):=⟨_,rfl⟩;rw [← hWn] at hx hB5 ⊢;clear hWn;obtain ⟨xb,hxb⟩:∃ b,b=Y2.heap.size:=⟨_,rfl⟩;rw [← hxb] at hx hxl ⊢;clear hxb;replace hB5:=qh hB5;replace hxl:=qh hxl;replace hx:=qh hx;have hS1:=hB5.out.ab;refine hK.out _ _ hS1 (fun _=>?_);clear hHeld hK K;have hHeld:=hS1;clear hS1
        try simp only [Act.put,zs1,zs2,zs3]
        refine rdL 4 ?_;intro K hK;go_simp;go_at_call 54;refine (hA.out _).mono ?_;rintro z Y4 ⟨rfl,hb⟩;have hB6:=qh (hB5.out.below hb);have hx1:=qh (Below.heap' hb hx.out);clear hx;have hx:=hx1;clear hx1;clear hb;go_wp2_with fail;have hS1:=hB6.out.ab;refine hK.out _ _ hS1 (fun _=>?_);clear hHeld hK K;have hHeld:=hS1;clear hS1
        try simp only [Act.put,zs1,zs2,zs3]
        refine tkL 5 ?_;refine tkL 6 ?_;refine tkL 7 ?_;refine rdL 9 ?_;intro K hK;obtain ⟨a0,a1,a2,a3,a4,a5,a6,aq⟩:=box7 hx.out;have af:=frozen_of_heap hx.out;obtain ⟨hz1,hz2⟩:=set7 hx.out (.int .u64 ((S:Nat):Int)) (.int .u8 ((C:Nat):Int)) (.string r) (.string v) (.bool d) (.int .i64 l1) (.int .u64 l2);have hBz:=qh (hB6.out.updX hN.out hxl.out hz2);have hS1:=hBz.out.ab;simp only [set7w] at hS1;replace hz1:=qh hz1;replace hS1:=qh hS1;clear hz2;go_simp;replace hS1:=hS1.out;clear a0 a1 a2 a3 a4 a5 a6 aq af;refine hK.out _ _ hS1 (fun _=>?_);clear hHeld hK K;have hHeld:=hS1;clear hS1
        try simp only [Act.put]
        refine tkL 10 ?_;refine wpAnyH_done (by kernel_rfl) ?_ _
        try simp only [Exit.then]
        go_wp2_with fail;go_meet;exact ⟨xb,rfl,rfl,hBz.out,hz1.out⟩
      ·skip
       go_simp;have hx:(Y1.alloc (.cells #[.int .u64 0,.int .u8 0,.string ⟨#[]⟩,.string ⟨#[]⟩,.bool false,.int .i64 0,.int .u64 0] 92)).drew.heap[Y1.heap.size]?=some (.cells #[.int .u64 0,.int .u8 0,.string ⟨#[]⟩,.string ⟨#[]⟩,.bool false,.int .i64 0,.int .u64 0] 92):=heap_alloc_new Y1 (.cells #[.int .u64 0,.int .u8 0,.string ⟨#[]⟩,.string ⟨#[]⟩,.bool false,.int .i64 0,.int .u64 0] 92);have hB4:=(hB2.out.below ((Below.refl Y1.heap.size Y1).alloc (Nat.le_refl _) (.cells #[.int .u64 0,.int .u8 0,.string ⟨#[]⟩,.string ⟨#[]⟩,.bool false,.int .i64 0,.int .u64 0] 92))).drew;have hxl:MB < Y1.heap.size:=heap_lt hB2.out.mb;obtain ⟨Y2,hWn⟩:∃ X,X=(Y1.alloc (.cells #[.int .u64 0,.int .u8 0,.string ⟨#[]⟩,.string ⟨#[]⟩,.bool false,.int .i64 0,.int .u64 0] 92)).drew:=⟨_,rfl⟩;rw [← hWn] at hx hB4 ⊢;clear hWn;obtain ⟨xb,hxb⟩:∃ b,b=Y1.heap.size:=⟨_,rfl⟩;rw [← hxb] at hx hxl ⊢;clear hxb;replace hB4:=qh hB4;replace hxl:=qh hxl;replace hx:=qh hx;have hS1:=hB4.out.ab;refine hK.out _ _ hS1 (fun _=>?_);clear hHeld hK K;have hHeld:=hS1;clear hS1
       try simp only [Act.put,zs1,zs2,zs3]
       refine rdL 2 ?_;intro K hK;go_simp;go_at_call 101;refine (hLq.out _).mono ?_;rintro z Y3 ⟨rfl,hb⟩;have hB5:=qh (hB4.out.below hb);have hx1:=qh (Below.heap' hb hx.out);clear hx;have hx:=hx1;clear hx1;clear hb;go_wp2_with fail;have hS1:=hB5.out.ab;refine hK.out _ _ hS1 (fun _=>?_);clear hHeld hK K;have hHeld:=hS1;clear hS1
       try simp only [Act.put,zs1,zs2,zs3]
       refine tkL 3 ?_;refine rdL 4 ?_;intro K hK;go_simp;go_at_call 54;refine (hA.out _).mono ?_;rintro z Y4 ⟨rfl,hb⟩;have hB6:=qh (hB5.out.below hb);have hx1:=qh (Below.heap' hb hx.out);clear hx;have hx:=hx1;clear hx1;clear hb;go_wp2_with fail;have hS1:=hB6.out.ab;refine hK.out _ _ hS1 (fun _=>?_);clear hHeld hK K;have hHeld:=hS1;clear hS1
       try simp only [Act.put,zs1,zs2,zs3]
       refine tkL 5 ?_;refine tkL 6 ?_;refine tkL 7 ?_;refine rdL 9 ?_;intro K hK;obtain ⟨a0,a1,a2,a3,a4,a5,a6,aq⟩:=box7 hx.out;have af:=frozen_of_heap hx.out;obtain ⟨hz1,hz2⟩:=set7 hx.out (.int .u64 ((S:Nat):Int)) (.int .u8 ((C:Nat):Int)) (.string r) (.string v) (.bool d) (.int .i64 l1) (.int .u64 l2);have hBz:=qh (hB6.out.updX hN.out hxl.out hz2);have hS1:=hBz.out.ab;simp only [set7w] at hS1;replace hz1:=qh hz1;replace hS1:=qh hS1;clear hz2;go_simp;replace hS1:=hS1.out;clear a0 a1 a2 a3 a4 a5 a6 aq af;refine hK.out _ _ hS1 (fun _=>?_);clear hHeld hK K;have hHeld:=hS1;clear hS1
       try simp only [Act.put]
       refine tkL 10 ?_;refine wpAnyH_done (by kernel_rfl) ?_ _
       try simp only [Exit.then]
       go_wp2_with fail;go_meet;exact ⟨xb,rfl,rfl,hBz.out,hz1.out⟩
     case rest =>
      obtain ⟨xb,rfl,rfl,hB3,hx⟩:=hcut;obtain ⟨Z,hZ⟩:∃ Z,Z=wc:=⟨_,rfl⟩;subst hZ;obtain ⟨a0,a1,a2,a3,a4,a5,a6,aq⟩:=box7 hx;have hr3:=qh (range_of_heap hB3.ab);replace hB3:=qh hB3;replace hx:=qh hx;clear hB2
      go_wp2_with (refine wpList_load_mid rfl 95 (.tmp 4) rfl AB 0 (by rfl) cq _ hr3.out Tryz.underlying95 rfl (by rw [hlq.out];kernel_rfl) ?_)
      refine (hDl.out _).mono ?_;rintro e Y3 ⟨rfl,hb⟩;have hB4:=hB3.out.below hb;have hx4:=Below.heap' hb hx.out;have th1:=qh (leaf_there (vs:=cq2) hB4.ab (by rw [List.size_toArray];exact hlq.out) hlq2.out);have hB5:=hB4.setA hN.out (vs:=cq2) (by rw [List.size_toArray,hlq.out,hlq2.out]);have hB6:=qh (hB5.updM hN.out (.int .u64 ((S:Nat):Int)) (.int .u8 ((C:Nat):Int)))
      have hxa:xb≠AB:=fun e=>by
       have h1:=hB4.ab;rw [← e,hx4] at h1;injection h1 with h1;injection h1 with h1 h2
       revert h2
       decide
      have hx5:=hb_other (o:=0) hx4 hxa cq2;clear a0 a1 a2 a3 a4 a5 a6 aq;obtain ⟨a0,a1,a2,a3,a4,a5,a6,aq⟩:=box7 hx5;obtain ⟨b0,b1,bq,b2,b3⟩:=box2 hB5.mb;obtain ⟨Y4,hY4⟩:∃ X,X=Y3.setCells AB 0 cq2:=⟨_,rfl⟩;rw [← hY4] at a0 a1 a2 a3 a4 a5 a6 aq b0 b1 bq b2 b3 hB6;replace hB5:=qh hB5;replace hx5:=qh hx5;replace hx4:=qh hx4;replace hxa:=qh hxa;clear hr3 hB3 hb hB4;go_upto_region 14 with (refine wpList_store_mid rfl 95 (.tmp 4) (.tmp 74) rfl AB 0 cq2.toArray (by rfl) (by rfl) th1.out (by rw [List.size_toArray,hlq2.out];kernel_rfl) hoq2.out ?_);rw [← hY4];replace hY4:=qh hY4;go_wp2_with fail;go_roundg (i - M)
      case rel=>exact ⟨i,_,⟨S,C⟩,rfl,by omega,by omega,t5.out,fun _=>by rw [← hse.out],by rw [← hcq2.out];exact hB6.out⟩
      case measure=>omega
    ·obtain rfl:M=j:=by omega
     clear hAq hlt;have g1:¬ (M:Int) < (M:Int):=by omega
     have hsmE:=hsm.out (by omega)
     have hQ:Hid (LFOK (q.ends sm true (n1,n2))∧(q.ends sm true (n1,n2)).bn=f.bn.left (n1,n2)):=qh (by
      have e1:=hne.out;have e2:=hM.out;have hLo:=hL.out;have hfo:=h.out;rw [hsmE];refine ⟨hLo.fin (nx:=(n1,n2)) hfo (by omega),?_⟩;subst e1;rw [e2] at hLo ⊢
      exact (hLo.bn (nx:=(n1,n2)) hfo h2).1)
     have hqS:=qh hL.out.ok.S;have hla:=lfc_len (f:=q.ends sm true (n1,n2)) hL.out.ok.S;have hoa:=lfc_one (q.ends sm true (n1,n2));obtain ⟨ca,hca⟩:∃ c,c=lfc (q.ends sm true (n1,n2)):=⟨_,rfl⟩;rw [← hca] at hla hoa;replace hla:=qh hla;replace hoa:=qh hoa;replace hca:=qh hca;replace hsmE:=qh hsmE
     go_wp2_with (refine wpList_load_mid rfl 95 (.tmp 4) rfl AB 0 (by rfl) cq _ hr1.out Tryz.underlying95 rfl (by rw [hlq.out];kernel_rfl) ?_)
     refine (hLq.out _).mono ?_;rintro e Z1 ⟨rfl,hb⟩;have hB2:=qh (hB1.out.below hb).drew;have hB2z:=qh (hB1.out.below hb);clear hb hr1 hB1;go_upto_region 15 with fail
     have hkeep:Hid (∀ (X X2:World),Upd [AB] X X2→(X.heap[MB]?=some (.cells #[.int .u64 ((sm.s:Nat):Int),.int .u8 ((sm.c:Nat):Int)] 90)∧X.heap[HB]?=some (.cells #[.int .i64 n1,.int .u64 n2] 71))→(X2.heap[MB]?=some (.cells #[.int .u64 ((sm.s:Nat):Int),.int .u8 ((sm.c:Nat):Int)] 90)∧X2.heap[HB]?=some (.cells #[.int .i64 n1,.int .u64 n2] 71))):=qh fun X X2 hu hx=>by
      have e1:=hN.out.m;have e2:=hN.out.a;have e3:=hN.out.h;exact ⟨hu.heap hx.1 (by simp;omega),hu.heap hx.2 (by simp;omega)⟩
     refine wp_region_held_drew (S:=fun W'=>W'.heap[MB]?=some (.cells #[.int .u64 ((sm.s:Nat):Int),.int .u8 ((sm.c:Nat):Int)] 90)∧W'.heap[HB]?=some (.cells #[.int .i64 n1,.int .u64 n2] 71)) rfl ⟨hB2.out.mb,hB2.out.hb⟩ (fun hHeld=>?_);refine ykL 0 ?_ (hy:=yieldsIf_load_mid (by rfl) 90 (.tmp 6) rfl MB 0 (by rfl) [.int .u64 ((sm.s:Nat):Int),.int .u8 ((sm.c:Nat):Int)] _ (fun w hw=>range_of_heap hw.1) Tryz.underlying90 rfl (by kernel_rfl));refine ykL 1 ?_ (hy:=yieldsIf_load_mid (by rfl) 71 (.tmp 3) rfl HB 0 (by rfl) [.int .i64 n1,.int .u64 n2] _ (fun w hw=>range_of_heap hw.2) Tryz.underlying71 rfl (by kernel_rfl));have kb:Hid (∃ c,c.size=111∧Z1.drew.heap[AB]?=some (.cells c 95)):=qh ⟨_,by rw [List.size_toArray,hlq.out],hB2.out.ab⟩;refine tkL 2 ?_;refine rdL 3 ?_;intro K hK;rw [if_pos (by rfl)];obtain ⟨c0,z0,kb0⟩:=kb.out;refine wp_store_mid 90 (.tmp 81) (.tmp 79) rfl AB 106 #[.int .u64 ((sm.s:Nat):Int),.int .u8 ((sm.c:Nat):Int)] (by rfl) (by rfl) (hb_thereA kb0 (by rw [z0];simp)) (by kernel_rfl) (by kernel_rfl) ?_;have kb1:=qh (sz_set (o:=106) kb0 z0 [.int .u64 ((sm.s:Nat):Int),.int .u8 ((sm.c:Nat):Int)] (by simp));have hS1:=hkeep.out _ _ (hb_upd _ AB 106 [.int .u64 ((sm.s:Nat):Int),.int .u8 ((sm.c:Nat):Int)]) hHeld;clear kb c0 z0 kb0;refine hK.out _ _ hS1 (fun _=>?_);clear hHeld hK K;have hHeld:=hS1;clear hS1
     try simp only [Act.put]
     refine tkL 4 ?_;refine rdL 5 ?_;intro K hK;obtain ⟨c0,z0,kb0⟩:=kb1.out;obtain ⟨⟨v0,y0⟩,y1,y2⟩:=sz_cell (o:=108) kb0 z0 (by omega);have kb:=qh (sz_set1 (o:=108) kb0 z0 (.bool true));replace kb0:=qh kb0;go_simp;have hS1:=hkeep.out _ _ ((Upd.refl [AB] _).setCell (p:=⟨AB,108,none⟩) (by simp) (.bool true)) hHeld;clear kb1 c0 z0 kb0 y0 y1 y2;refine hK.out _ _ hS1 (fun _=>?_);clear hHeld hK K;have hHeld:=hS1;clear hS1
     try simp only [Act.put]
     refine tkL 6 ?_;refine rdL 7 ?_;intro K hK;rw [if_pos (by rfl)];obtain ⟨c0,z0,kb0⟩:=kb.out;refine wp_store_mid 71 (.tmp 83) (.tmp 80) rfl AB 109 #[.int .i64 n1,.int .u64 n2] (by rfl) (by rfl) (hb_thereA kb0 (by rw [z0];simp)) (by kernel_rfl) (by kernel_rfl) ?_;have hS1:=hkeep.out _ _ (hb_upd _ AB 109 [.int .i64 n1,.int .u64 n2]) hHeld;clear kb c0 z0 kb0;refine hK.out _ _ hS1 (fun _=>?_);clear hHeld hK K;have hHeld:=hS1;clear hS1
     try simp only [Act.put]
     clear hHeld hkeep;have hB3:=qh (hB2.out.updA hN.out (endW_upd Z1.drew AB (.int .u64 ((sm.s:Nat):Int)) (.int .u8 ((sm.c:Nat):Int)) (.bool true) (.int .i64 n1) (.int .u64 n2)) (lf_ends (g:=q) (by rw [← hcq.out];exact hB2.out.ab) hqS.out sm true (n1,n2)));refine wpAnyH_done (by kernel_rfl) ?_ _
     try simp only [Exit.then]
     obtain ⟨Z2,hZ2⟩:∃ X,X=((Z1.drew.setCells AB 106 [.int .u64 ((sm.s:Nat):Int),.int .u8 ((sm.c:Nat):Int)]).setCell ⟨AB,108,none⟩ (.bool true)).setCells AB 109 [.int .i64 n1,.int .u64 n2]:=⟨_,rfl⟩
     try simp only [List.toList_toArray]
     rw [← hZ2];have hB4:Hid (SpB w LB HB AB BB MB cs (n1,n2) ca.toArray cg.toArray (.int .u64 ((sm.s:Nat):Int)) (.int .u8 ((sm.c:Nat):Int)) Z2):=qh (by rw [hZ2,hca.out];exact hB3.out);clear hB3 hB2 hB2z hZ2;go_upto_region 16 with fail;have hB5:=qh hB4.out.drew;refine wp_region_held_drew (S:=fun W'=>W'.heap[AB]?=some (.cells ca.toArray 95)∧W'.heap[BB]?=some (.cells cg.toArray 95)∧W'.heap[MB]?=some (.cells #[.int .u64 ((sm.s:Nat):Int),.int .u8 ((sm.c:Nat):Int)] 90)) rfl ⟨hB5.out.ab,hB5.out.bb,hB5.out.mb⟩ (fun hHeld=>?_);refine ykL 0 ?_ (hy:=yieldsIf_load_mid (by rfl) 95 (.tmp 4) rfl AB 0 (by rfl) ca _ (fun w hw=>range_of_heap hw.1) Tryz.underlying95 rfl (by rw [hla.out];kernel_rfl));refine ykL 1 ?_ (hy:=yieldsIf_load_mid (by rfl) 95 (.tmp 5) rfl BB 0 (by rfl) cg _ (fun w hw=>range_of_heap hw.2.1) Tryz.underlying95 rfl (by rw [hlg.out];kernel_rfl));refine ykL 2 ?_ (hy:=yieldsIf_load_mid (by rfl) 90 (.tmp 6) rfl MB 0 (by rfl) [.int .u64 ((sm.s:Nat):Int),.int .u8 ((sm.c:Nat):Int)] _ (fun w hw=>range_of_heap hw.2.2) Tryz.underlying90 rfl (by kernel_rfl));refine rdL 3 ?_;intro K hK;rw [if_pos (by rfl)];refine wp_store_mid 95 (.tmp 4) (.tmp 84) rfl AB 0 ca.toArray (by rfl) (by rfl) (leaf_there hB5.out.ab (by rw [List.size_toArray,hla.out]) hla.out) (by rw [List.size_toArray,hla.out];kernel_rfl) hoa.out ?_;have hB6:=qh (hB5.out.setA hN.out (vs:=ca) (by rw [List.size_toArray]));have hS1:=And.intro hB6.out.ab (And.intro hB6.out.bb hB6.out.mb)
     refine hK.out _ _ hS1 (fun _=>?_);clear hHeld hK K;have hHeld:=hS1;clear hS1
     try simp only [Act.put]
     refine rdL 4 ?_;intro K hK;rw [if_pos (by rfl)];refine wp_store_mid 95 (.tmp 5) (.tmp 85) rfl BB 0 cg.toArray (by rfl) (by rfl) (leaf_there hB6.out.bb (by rw [List.size_toArray,hlg.out]) hlg.out) (by rw [List.size_toArray,hlg.out];kernel_rfl) hog.out ?_;have hB7:=qh (hB6.out.setB hN.out (vs:=cg) (by rw [List.size_toArray]));have hS1:=And.intro hB7.out.ab (And.intro hB7.out.bb hB7.out.mb);refine hK.out _ _ hS1 (fun _=>?_);clear hHeld hK K;have hHeld:=hS1;clear hS1
     try simp only [Act.put]
     refine rdL 5 ?_;intro K hK;rw [if_pos (by rfl)];refine wp_store_mid 90 (.tmp 6) (.tmp 86) rfl MB 0 #[.int .u64 ((sm.s:Nat):Int),.int .u8 ((sm.c:Nat):Int)] (by rfl) (by rfl) (hb_thereA hB7.out.mb (by simp)) (by kernel_rfl) (by kernel_rfl) ?_;have hB8:Hid (SpB w LB HB AB BB MB cs (n1,n2) ca.toArray cg.toArray (.int .u64 ((sm.s:Nat):Int)) (.int .u8 ((sm.c:Nat):Int)) (((Z2.drew.setCells AB 0 ca).setCells BB 0 cg).setCells MB 0 [.int .u64 ((sm.s:Nat):Int),.int .u8 ((sm.c:Nat):Int)])):=qh (hB7.out.updM hN.out (.int .u64 ((sm.s:Nat):Int)) (.int .u8 ((sm.c:Nat):Int)));have hS1:=And.intro hB8.out.ab (And.intro hB8.out.bb hB8.out.mb);refine hK.out _ _ hS1 (fun _=>?_);clear hHeld hK K;have hHeld:=hS1;clear hS1
     try simp only [Act.put]
     clear hHeld;have hl1:=qh (run_loadVar_mid (P:=Tryz.prog) _ AB 0 95 ca _ (range_of_heap hB8.out.ab) Tryz.underlying95 rfl (by rw [hla.out];kernel_rfl));have hl2:=qh (run_loadVar_mid (P:=Tryz.prog) _ BB 0 95 cg _ (range_of_heap hB8.out.bb) Tryz.underlying95 rfl (by rw [hlg.out];kernel_rfl));have hl3:=qh (run_loadVar_mid (P:=Tryz.prog) _ MB 0 90 [.int .u64 ((sm.s:Nat):Int),.int .u8 ((sm.c:Nat):Int)] _ (range_of_heap hB8.out.mb) Tryz.underlying90 rfl (by kernel_rfl));refine wpAnyH_done (by kernel_rfl) ?_ _
     try simp only [Exit.then]
     go_wp2_with fail;refine bodyPost_ret (v:=.tuple #[.agg ca.toArray,.agg cg.toArray,.agg #[.int .u64 ((sm.s:Nat):Int),.int .u8 ((sm.c:Nat):Int)]]) (by simp [results,Tryz.results144,asAddr,hl1.out,hl2.out,hl3.out]) rfl ⟨q.ends sm true (n1,n2),g,by rw [hca.out,hcg.out,← hne.out,← hM.out,← hsmE.out],hB8.out.bel,hQ.out.1,hgR.out.1,hQ.out.2,hgR.out.2⟩
end Go.Proofs.YtbdealmkmpnpoaaGreat.M
