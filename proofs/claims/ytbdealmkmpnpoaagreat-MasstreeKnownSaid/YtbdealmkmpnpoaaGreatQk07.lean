import Derived.StillTailTactics
import Derived.Deep.DeepCutAuto
import Derived.Deep.CutBlock
import Derived.Lib.SliceRun
import Derived.Deep.RegionLaw
import Derived.Laws.MakeOwn
import Derived.Test.YtbdealmkmpnpoaaGreatQk01
import Derived.Test.YtbdealmkmpnpoaaGreatQk02
import Derived.Test.YtbdealmkmpnpoaaGreatQk03
import Derived.Test.YtbdealmkmpnpoaaGreatQk04
import Derived.Test.YtbdealmkmpnpoaaGreatQk05
import Derived.Test.YtbdealmkmpnpoaaGreatQk06
set_option linter.all false
namespace Go.Proofs.YtbdealmkmpnpoaaGreat
open Go.RowKit
namespace AMnode
def ArenaIs (w:World) (a:Nat) (p:Option Addr) (m:Nat) (L:List Ent) (c:Nat):Prop :=
 a≠m∧w.heap[a]?=some (.cells #[.pointer p,.map (some m)] 162)∧w.heap[m]?=some (.map (ents L) c)
theorem ArenaIs.cells {w : World} {a : Nat} {p : Option Addr} {m : Nat} {L : List Ent} {c : Nat} (h : ArenaIs w a p m L c) :
    w.cell? ⟨a,0,none⟩=some (.pointer p)∧w.cell? ⟨a,1,none⟩=some (.map (some m)):=by
 obtain ⟨_,h1,_⟩:=h
 exact ⟨by rw [cell_of_heap h1];rfl,by rw [cell_of_heap h1];rfl⟩
theorem ArenaIs.upd {S:List Nat} {w w':World} {a:Nat} {p:Option Addr} {m:Nat} {L:List Ent} {c:Nat} (h:ArenaIs w a p m L c) (hu:Upd S w w') (ha:a∉S) (hm:m∉S):ArenaIs w' a p m L c :=
 ⟨h.1,hu.heap h.2.1 ha,hu.heap h.2.2 hm⟩
theorem ArenaIs.below {w w':World} {a:Nat} {p:Option Addr} {m:Nat} {L:List Ent} {c:Nat} (h:ArenaIs w a p m L c) (hb:Below w.heap.size w w'):ArenaIs w' a p m L c :=
 h.upd (Upd.of_below (S:=[]) hb) (by simp) (by simp)
theorem aNew_any (p : Option Addr) (w : World) :
    Calls Tryz.prog 46 #[.pointer p] w fun e w'=>e=.returned (.pointer (some ⟨w.heap.size+1,0,none⟩))∧Below w.heap.size w w'∧ArenaIs w' (w.heap.size+1) p w.heap.size [] 0∧w'.heap.size=w.heap.size+2:=by
 have hmm:=@run_makeMap Tryz.prog
 go_enter Tryz.func46,Tryz.ntmps46
 go_wp2
 go_ret
 refine ⟨rfl,((Below.refl _ _).alloc (Nat.le_refl _) _).alloc (by simp) _,⟨by omega,?_,?_⟩,by simp⟩
 ·have:=heap_alloc_new (w.alloc (.map #[] 0)) (.cells #[.pointer p,.map (some w.heap.size)] 162)
  simpa using this
 ·exact heap_alloc_old _ (heap_alloc_new w (.map #[] 0))
theorem aLive_any (a : Nat) (p : Option Addr) (m : Nat) (L : List Ent) (c : Nat) (w : World) (h : ArenaIs w a p m L c) :
    Calls Tryz.prog 59 #[.pointer (some ⟨a,0,none⟩)] w fun e w'=>e=.returned (.int .i64 L.length)∧Below w.heap.size w w':=by
 have h1:=h.cells.2
 have hlen:=run_len (P:=Tryz.prog) (ty:=3) Tryz.underlying160 h.2.2
 clear h
 go_enter Tryz.func59,Tryz.ntmps59
 go_wp2
 go_ret
 exact ⟨rfl,Below.refl _ _⟩
theorem aFind_none (a : Nat) (p : Option Addr) (m : Nat) (L : List Ent) (c : Nat) (hs hg : Int) (w : World) (h : ArenaIs w a p m L c) (hv : val? L hs = none) :
    Calls Tryz.prog 109 #[.pointer (some ⟨a,0,none⟩),.agg #[.int .i64 hs,.int .u64 hg]] w fun e w'=>e=.returned (.tuple #[.pointer none,.bool false])∧Below w.heap.size w w':=by
 have h1:=h.cells.2
 have ha:a < w.heap.size:=block_lt_of_cell h1
 have hlk:∀ n,(Instr.lookup 160 (.map (some m)) (.int .i64 hs) true).run Tryz.prog ((w.alloc (.cells #[.int .i64 hs,.int .u64 hg] 71)).drewN n)=.ok (.tuple #[.pointer none,.bool false]) ((w.alloc (.cells #[.int .i64 hs,.int .u64 hg] 71)).drewN n):=by
  intro n;have:=run_lookup_ok (P:=Tryz.prog) (w:=(w.alloc (.cells #[.int .i64 hs,.int .u64 hg] 71)).drewN n) (z:=.pointer none) hs Tryz.underlying160 Tryz.underlying3 (heap_alloc_old _ h.2.2) (by kernel_rfl);rw [hv] at this;exact this
 clear h
 go_enter Tryz.func109,Tryz.ntmps109
 go_wp2
 go_quiet (fail)
 go_wp2
 go_quiet (fail)
 go_wp2
 go_ret2
 exact ⟨rfl,below_drewN (below_drewN ((Below.refl _ _).alloc (Nat.le_refl _) _) _) _⟩
theorem aFind_some (a : Nat) (p : Option Addr) (m : Nat) (L : List Ent) (c : Nat) (hs hg : Int) (b : Nat) (g : Int) (w : World) (h : ArenaIs w a p m L c) (hv : val? L hs = some (.pointer (some ⟨b, 0, none⟩))) (hb : w.cell? ⟨b, 0, none⟩ = some (.int .u64 g)) :
    Calls Tryz.prog 109 #[.pointer (some ⟨a,0,none⟩),.agg #[.int .i64 hs,.int .u64 hg]] w fun e w'=>e=.returned (.tuple #[.pointer (some ⟨b,0,none⟩),.bool (g == hg)])∧Below w.heap.size w w':=by
 have h1:=h.cells.2
 have ha:a < w.heap.size:=block_lt_of_cell h1
 have hbl:b < w.heap.size:=block_lt_of_cell hb
 have hlk:∀ n,(Instr.lookup 160 (.map (some m)) (.int .i64 hs) true).run Tryz.prog ((w.alloc (.cells #[.int .i64 hs,.int .u64 hg] 71)).drewN n)=.ok (.tuple #[.pointer (some ⟨b,0,none⟩),.bool true]) ((w.alloc (.cells #[.int .i64 hs,.int .u64 hg] 71)).drewN n):=by
  intro n;have:=run_lookup_ok (P:=Tryz.prog) (w:=(w.alloc (.cells #[.int .i64 hs,.int .u64 hg] 71)).drewN n) (z:=.pointer none) hs Tryz.underlying160 Tryz.underlying3 (heap_alloc_old _ h.2.2) (by kernel_rfl);rw [hv] at this;exact this
 clear h
 go_enter Tryz.func109,Tryz.ntmps109
 go_wp2
 go_quiet (fail)
 go_wp2
 go_quiet (fail)
 go_wp2
 go_ret2
 exact ⟨rfl,below_drewN (below_drewN ((Below.refl _ _).alloc (Nat.le_refl _) _) _) _⟩
theorem aGet_none (a : Nat) (p : Option Addr) (m : Nat) (L : List Ent) (c : Nat) (hs hg : Int) (w : World) (h : ArenaIs w a p m L c) (hv : val? L hs = none) :
    Calls Tryz.prog 62 #[.pointer (some ⟨a,0,none⟩),.agg #[.int .i64 hs,.int .u64 hg]] w fun e w'=>e=.returned (.tuple #[.pointer none,.bool false])∧Below w.heap.size w w':=by
 go_enter Tryz.func62,Tryz.ntmps62
 go_wp2_with fail
 refine (aFind_none a p m L c hs hg _ (h.below ((Below.refl _ _).alloc (Nat.le_refl _) _)) hv).mono ?_
 rintro e w1 ⟨rfl,hb⟩
 go_wp2_with fail
 go_ret2
 exact ⟨rfl,((Below.refl _ _).alloc (Nat.le_refl _) _).trans (hb.mono (by simp))⟩
theorem aGet_some (a : Nat) (p : Option Addr) (m : Nat) (L : List Ent) (c : Nat) (hs hg : Int) (b : Nat) (g : Int) (w : World) (h : ArenaIs w a p m L c) (hv : val? L hs = some (.pointer (some ⟨b, 0, none⟩))) (hb : w.cell? ⟨b, 0, none⟩ = some (.int .u64 g)) :
    Calls Tryz.prog 62 #[.pointer (some ⟨a,0,none⟩),.agg #[.int .i64 hs,.int .u64 hg]] w fun e w'=>e=.returned (.tuple #[.pointer (if g=hg then some ⟨b,1,none⟩ else none),.bool (g == hg)])∧Below w.heap.size w w':=by
 have hbl:b < w.heap.size:=block_lt_of_cell hb
 by_cases hgg:g=hg
 ·subst hgg
  go_enter Tryz.func62,Tryz.ntmps62
  go_wp2_with fail;refine (aFind_some a p m L c hs g b g _ (h.below ((Below.refl _ _).alloc (Nat.le_refl _) _)) hv (keep ((Below.refl _ _).alloc (Nat.le_refl _) _) hb)).mono ?_;rintro e w1 ⟨rfl,hb1⟩;go_wp2_with fail;go_ret2;exact ⟨by simp,((Below.refl _ _).alloc (Nat.le_refl _) _).trans (hb1.mono (by simp))⟩
 ·have hne:(g == hg)=false:=by simpa using hgg
  go_enter Tryz.func62,Tryz.ntmps62
  go_wp2_with fail;refine (aFind_some a p m L c hs hg b g _ (h.below ((Below.refl _ _).alloc (Nat.le_refl _) _)) hv (keep ((Below.refl _ _).alloc (Nat.le_refl _) _) hb)).mono ?_;rintro e w1 ⟨rfl,hb1⟩;go_wp2_with fail;go_ret2;exact ⟨by simp,((Below.refl _ _).alloc (Nat.le_refl _) _).trans (hb1.mono (by simp))⟩
theorem cellMn_places:bplaces Tryz.prog 192=some (((Tryz.prog.info? 192).bind (·.zero)).getD undef |>.cells,[(0,1),(1,120)]):=by kernel_rfl
theorem cellMn_size:((((Tryz.prog.info? 192).bind (·.zero)).getD undef).cells).size=121:=by kernel_rfl
theorem build_cell (gv:Int) (cs:List Value) (hcl:cs.length=120):Tryz.prog.built 192 [(0,.int .u64 gv),(1,.agg cs.toArray)]=some (Value.int .u64 gv::cs).toArray:=by
 rw [built_of cellMn_places]
 have hz:=cellMn_size
 generalize (((Tryz.prog.info? 192).bind (·.zero)).getD undef).cells=z at hz ⊢
 rw [fill_cons (off:=0) (size:=1) (c:=[.int .u64 gv]) rfl rfl rfl (by omega),fill_cons (off:=1) (size:=120) (c:=cs) rfl rfl hcl (by rw [seg_size (by simp;omega)];omega),fill_nil]
 congr 1
 unfold seg
 simp [hcl]
 omega
set_option maxRecDepth 100000 in
theorem aAlloc_some (a p g f m : Nat) (L : List Ent) (c : Nat) (gens : List Int) (free : List Bool) (cs : List Value) (hcl : cs.length = 120) (w : World) (h : ArenaIs w a (some ⟨p, 0, none⟩) m L c) (hp : PoolIs w p g f gens free) (hn : true ∈ free)
    (hap:a≠p) (haf:a≠f) (hmp:m≠p) (hmf:m≠f) (hmg:m≠g) (hnew:val? L (free.idxOf true:Nat)=none) :
    Calls Tryz.prog 90 #[.pointer (some ⟨a,0,none⟩),.agg cs.toArray] w fun e w'=>e=.returned (.tuple #[.agg #[.int .i64 (free.idxOf true),.int .u64 (gens.getD (free.idxOf true) 0)],.int .i64 0]) ∧
     Upd [p,f,m] w w'∧PoolIs w' p g f gens (free.set (free.idxOf true) false)∧∃ b,w.heap.size≤b∧ArenaIs w' a (some ⟨p,0,none⟩) m (L++[⟨(free.idxOf true:Nat),.pointer (some ⟨b,0,none⟩),c⟩]) (c+1) ∧
     w'.heap[b]?=some (.cells (Value.int .u64 (gens.getD (free.idxOf true) 0)::cs).toArray 192):=by
 obtain ⟨v,hv⟩:∃ v,v=w:=⟨_,rfl⟩
 obtain ⟨w,hw⟩:∃ w,w=v.alloc (.cells cs.toArray 100):=⟨_,rfl⟩
 have hB0:Below v.heap.size v w:=by rw [hw];exact (Below.refl _ _).alloc (Nat.le_refl _) _
 have hx0:w.heap[v.heap.size]?=some (.cells cs.toArray 100):=by rw [hw];exact heap_alloc_new _ _
 have hzv:w.heap.size=v.heap.size+1:=by rw [hw];simp
 subst hv
 have hpv:p < v.heap.size:=heap_lt hp.2.2.2.2.2.1
 have hmv:=qh (heap_lt h.2.2)
 have hfv:f < v.heap.size:=heap_lt hp.2.2.2.2.2.2.2
 have hv1:=h.cells.1
 have hav:a < v.heap.size:=block_lt_of_cell hv1
 replace h:=h.below hB0
 replace hp:=hp.below hB0
 have h1:=h.cells.1
 have ha:a < w.heap.size:=block_lt_of_cell h1
 have hm:m < w.heap.size:=heap_lt h.2.2
 have HP:=qh hp
 have HA:=qh h
 replace hw:=qh hw
 replace hB0:=qh hB0
 replace hx0:=qh hx0
 replace hzv:=qh hzv
 have HT:=fun (W:World) (hW:PoolIs W p g f gens free)=>pTake_some p g f gens free W hW hn
 replace HT:=qh HT
 clear h hp
 generalize gens.getD (free.idxOf true) 0=gv at *
 generalize free.idxOf true=i at *
 go_enter Tryz.func90,Tryz.ntmps90
 go_wp2_with fail
 rw [← hw.out,← hzv.out]
 clear hv1 hav
 refine (HT.out _ (HP.out.below ((Below.refl _ _).alloc (Nat.le_refl _) _))).mono ?_
 clear HT
 rintro e w1 ⟨rfl,hu1,hp1⟩
 have hs0:=hu1.size
 simp at hs0
 have hs1:w.heap.size < w1.heap.size:=by omega
 clear hs0
 have hpl:p < w.heap.size:=heap_lt HP.out.2.2.2.2.2.1
 have hfl:f < w.heap.size:=heap_lt HP.out.2.2.2.2.2.2.2
 have b0:=hu1.heap (heap_alloc_new w (.cells #[.int .i64 0,.int .u64 0] 71)) (by simp;omega)
 have c0:w1.cell? ⟨w.heap.size,0,none⟩=some (.int .i64 0):=by rw [cell_of_heap b0];rfl
 have c1:w1.cell? ⟨w.heap.size,1,none⟩=some (.int .u64 0):=by rw [cell_of_heap b0];rfl
 have f0:w1.frozen? ⟨w.heap.size,0,none⟩=false:=frozen_of_heap b0 _
 have f1:w1.frozen? ⟨w.heap.size,1,none⟩=false:=frozen_of_heap b0 _
 have hx1:=hu1.heap (heap_alloc_old _ hx0.out) (by simp;omega)
 have hvl:v.heap.size < w1.heap.size:=heap_lt hx1
 replace hx1:=qh hx1
 have A1:=(HA.out.below ((Below.refl _ _).alloc (Nat.le_refl _) (.cells #[.int .i64 0,.int .u64 0] 71))).upd hu1 (by simp [hap,haf]) (by simp [hmp,hmf])
 have hU:Upd [p,f] w w1:=((Upd.refl _ _).alloc _).trans hu1
 have a1:=A1.cells.2
 have ha1:a < w1.heap.size:=by omega
 have HA1:=qh A1
 have HP1:=qh hp1
 have HU:=qh hU
 have HB0:=qh b0
 have hm1:((w1.alloc (.cells #[.int .i64 i,.int .u64 gv] 71)).drew.alloc (.cells (Value.int .u64 gv::cs).toArray 192)).heap[m]?=some (.map (ents L) c):=heap_alloc_old _ (heap_alloc_old _ A1.2.2)
 have hup:=run_update (P:=Tryz.prog) (i:Int) (.pointer (some ⟨w1.heap.size+1,0,none⟩)) Tryz.underlying160 Tryz.underlying3 hm1
 rw [hnew] at hup
 simp only [Option.isSome_none,Bool.false_eq_true,if_false] at hup
 clear hu1 hp1 A1 hU b0 hm1
 go_upto_region 6 with fail
 have hH:(w1.alloc (.cells #[.int .i64 i,.int .u64 gv] 71)).drew.heap[w1.heap.size]?=some (.cells #[.int .i64 i,.int .u64 gv] 71):=heap_alloc_new w1 (.cells #[.int .i64 i,.int .u64 gv] 71)
 have hX:(w1.alloc (.cells #[.int .i64 i,.int .u64 gv] 71)).drew.heap[v.heap.size]?=some (.cells cs.toArray 100):=heap_alloc_old _ hx1.out
 have hA1:(w1.alloc (.cells #[.int .i64 i,.int .u64 gv] 71)).drew.heap[a]?=some (.cells #[.pointer (some ⟨p,0,none⟩),.map (some m)] 162):=heap_alloc_old _ HA1.out.2.1
 have hsz:(w1.alloc (.cells #[.int .i64 i,.int .u64 gv] 71)).drew.heap.size=w1.heap.size+1:=by show (w1.heap.push _).size=_;simp
 obtain ⟨W6,hW6⟩:∃ X,X=(w1.alloc (.cells #[.int .i64 i,.int .u64 gv] 71)).drew:=⟨_,rfl⟩
 refine wp_region_held_drew (S:=fun W'=>W'.heap[a]?=some (.cells #[.pointer (some ⟨p,0,none⟩),.map (some m)] 162)∧W'.heap[w1.heap.size]?=some (.cells #[.int .i64 i,.int .u64 gv] 71)∧W'.heap[v.heap.size]?=some (.cells cs.toArray 100)) rfl ⟨hA1,hH,hX⟩ (fun hHeld=>?_)
 rw [← hW6] at hup hsz hHeld ⊢
 replace hup:=qh hup
 replace hsz:=qh hsz
 clear hA1 hH hX
 replace hW6:=qh hW6
 refine tkL 0 ?_
 refine tkL 1 ?_
 refine tkL 2 ?_
 refine tkL 3 ?_ (hz:=by rintro w ⟨e1,e2,e3⟩;have f1:=cell_of_heap e1 1;exact zf)
 refine tkL 4 ?_
 refine tkL 5 ?_ (hz:=by rintro w ⟨e1,e2,e3⟩;have f0:=cell_of_heap e2 0;have f1:=cell_of_heap e2 1;exact zf)
 refine tkL 6 ?_
 refine tkL 7 ?_ (hz:=by rintro w ⟨e1,e2,e3⟩;have f0:=cell_of_heap e2 0;have f1:=cell_of_heap e2 1;exact zf)
 refine ykL 8 ?_ (hy:=yieldsIf_load_mid (by rfl) 100 (.tmp 3) rfl v.heap.size 0 (by rfl) cs _ (fun w hw=>range_of_heap hw.2.2) Tryz.underlying100 rfl (by rw [hcl];kernel_rfl))
 refine ykL 9 ?_ (hy:=yieldsIf_build (by rfl) 192 #[(0,.tmp 29),(1,.tmp 30)] rfl _ rfl _ (build_cell gv cs hcl))
 refine rdL 10 ?_
 intro K hK
 go_simp
 have hS1:=And.intro (heap_alloc_old (.cells (Value.int .u64 gv::cs).toArray 192) hHeld.1) (And.intro (heap_alloc_old (.cells (Value.int .u64 gv::cs).toArray 192) hHeld.2.1) (heap_alloc_old (.cells (Value.int .u64 gv::cs).toArray 192) hHeld.2.2))
 refine hK.out _ _ hS1 (fun _=>?_)
 clear hHeld hK K
 have hHeld:=hS1
 clear hS1
 try simp only [Act.put,zs1,zs2,zs3]
 refine rdL 11 ?_
 intro K hK
 have hsz2:=hsz.out
 have hup2:=hup.out
 go_simp
 have hmv2:=hmv.out
 have hszv:v.heap.size < w1.heap.size:=hvl
 have hS1:=And.intro ((heap_setObj_other (w:=W6.alloc (.cells (Value.int .u64 gv::cs).toArray 192)) (.map (ents (setEnt (↑i) (Value.pointer (some ⟨w1.heap.size+1,0,none⟩)) c L)) (c+1)) HA1.out.1).trans hHeld.1) (And.intro ((heap_setObj_other (w:=W6.alloc (.cells (Value.int .u64 gv::cs).toArray 192)) (.map (ents (setEnt (↑i) (Value.pointer (some ⟨w1.heap.size+1,0,none⟩)) c L)) (c+1)) (by omega:w1.heap.size≠m)).trans hHeld.2.1) ((heap_setObj_other (w:=W6.alloc (.cells (Value.int .u64 gv::cs).toArray 192)) (.map (ents (setEnt (↑i) (Value.pointer (some ⟨w1.heap.size+1,0,none⟩)) c L)) (c+1)) (by omega:v.heap.size≠m)).trans hHeld.2.2))
 refine hK.out _ _ hS1 (fun _=>?_)
 clear hHeld hK K hS1
 try simp only [Act.put]
 rw [hW6.out]
 refine wpAnyH_done (by kernel_rfl) ?_ _
 try simp only [Exit.then]
 clear hup
 have E1:(L++[(⟨i,.pointer (some ⟨w1.heap.size+1,0,none⟩),c⟩:Ent)])=setEnt (↑i) (Value.pointer (some { block:=w1.heap.size+1,off:=0 })) c L:=(setEnt_none _ _ _ _ hnew).symm
 rw [← E1]
 have hU5:Upd [p,f,m] w (World.setObj' ((w1.alloc (.cells #[.int .i64 i,.int .u64 gv] 71)).drew.alloc (.cells (Value.int .u64 gv::cs).toArray 192)) m (Obj.map (ents (L++[(⟨i,.pointer (some ⟨w1.heap.size+1,0,none⟩),c⟩:Ent)])) (c+1))) :=
  ((((HU.out.mono (by simp +contextual)).alloc _).drew).alloc _).setObj (by simp) _
 have h5:∀ b o,((w1.alloc (.cells #[.int .i64 i,.int .u64 gv] 71)).drew.alloc (.cells (Value.int .u64 gv::cs).toArray 192)).heap[b]?=some o→b≠m→(World.setObj' ((w1.alloc (.cells #[.int .i64 i,.int .u64 gv] 71)).drew.alloc (.cells (Value.int .u64 gv::cs).toArray 192)) m (Obj.map (ents (L++[(⟨i,.pointer (some ⟨w1.heap.size+1,0,none⟩),c⟩:Ent)])) (c+1))).heap[b]?=some o:=by
  intro b o hb hn;rw [heap_setObj_other _ hn];exact hb
 have hm5:(World.setObj' ((w1.alloc (.cells #[.int .i64 i,.int .u64 gv] 71)).drew.alloc (.cells (Value.int .u64 gv::cs).toArray 192)) m (Obj.map (ents (L++[(⟨i,.pointer (some ⟨w1.heap.size+1,0,none⟩),c⟩:Ent)])) (c+1))).heap[m]?=some (.map (ents (L++[(⟨i,.pointer (some ⟨w1.heap.size+1,0,none⟩),c⟩:Ent)])) (c+1)) :=
  heap_setObj_same _ (by simp;omega)
 generalize World.setObj' ((w1.alloc (.cells #[.int .i64 i,.int .u64 gv] 71)).drew.alloc (.cells (Value.int .u64 gv::cs).toArray 192)) m (Obj.map (ents (L++[(⟨i,.pointer (some ⟨w1.heap.size+1,0,none⟩),c⟩:Ent)])) (c+1))=w5 at *
 have b4:=h5 w.heap.size (.cells #[.int .i64 0,.int .u64 0] 71) (heap_alloc_old _ (heap_alloc_old _ HB0.out)) (by omega)
 have b6:=h5 w1.heap.size (.cells #[.int .i64 i,.int .u64 gv] 71) (heap_alloc_old _ (heap_alloc_new _ _)) (by omega)
 have b7:=h5 (w1.heap.size+1) (.cells (Value.int .u64 gv::cs).toArray 192) (by have h0:((w1.alloc (.cells #[.int .i64 i,.int .u64 gv] 71)).drew).heap.size=w1.heap.size+1:=by { show (w1.heap.push _).size=_;simp };have:=heap_alloc_new (w1.alloc (.cells #[.int .i64 i,.int .u64 gv] 71)).drew (.cells (Value.int .u64 gv::cs).toArray 192);rw [h0] at this;exact this) (by omega)
 have b8:=h5 a _ (heap_alloc_old _ (heap_alloc_old _ HA1.out.2.1)) HA1.out.1
 have p1:=HP1.out
 have d0:w5.cell? ⟨w1.heap.size,0,none⟩=some (.int .i64 i):=by rw [cell_of_heap b6];rfl
 have d1:w5.cell? ⟨w1.heap.size,1,none⟩=some (.int .u64 gv):=by rw [cell_of_heap b6];rfl
 have e0:w5.cell? ⟨w.heap.size,0,none⟩=some (.int .i64 0):=by rw [cell_of_heap b4];rfl
 have e1:w5.cell? ⟨w.heap.size,1,none⟩=some (.int .u64 0):=by rw [cell_of_heap b4];rfl
 have g0:w5.frozen? ⟨w.heap.size,0,none⟩=false:=frozen_of_heap b4 _
 have g1:w5.frozen? ⟨w.heap.size,1,none⟩=false:=frozen_of_heap b4 _
 have HP5:PoolIs w5 p g f gens (free.set i false):=by
  obtain ⟨q1,q2,q3,q4,q5,q6,q7,q8⟩:=p1;exact ⟨q1,q2,q3,q4,q5,h5 _ _ (heap_alloc_old _ (heap_alloc_old _ q6)) (fun e=>hmp e.symm),h5 _ _ (heap_alloc_old _ (heap_alloc_old _ q7)) (fun e=>hmg e.symm),h5 _ _ (heap_alloc_old _ (heap_alloc_old _ q8)) (fun e=>hmf e.symm)⟩
 have H5:=qh HP5
 have HM:=qh hm5
 have H7:=qh b7
 have H8:=qh b8
 have HU5:=qh hU5
 clear HP5 hm5 b7 b8 b4 b6 h5 p1 hU5 E1 c0 c1 f0 f1 a1 h1
 go_wp2_with fail
 have hsz:w.heap.size < w5.heap.size:=block_lt_of_cell e0
 refine bodyPost_ret (v:=.tuple #[.agg #[.int .i64 i,.int .u64 gv],.int .i64 0]) (by simp [results,Tryz.results90,go_sem,e0,e1]) rfl ⟨rfl,?_,?_,w1.heap.size+1,by have:=hzv.out;omega,?_,?_⟩
 ·exact ((Upd.of_below (S:=[]) hB0.out).mono (by simp)).trans <| (HU5.out.setNew (p:=⟨w.heap.size,0,none⟩) (Nat.le_refl _) _).setNew (p:=⟨w.heap.size,1,none⟩) (Nat.le_refl _) _
 all_goals
  have hq:Upd [w.heap.size] w5 ((w5.setCell { block:=w.heap.size,off:=0 } (Value.int IntKind.i64 ↑i)).setCell { block:=w.heap.size,off:=1 } (Value.int IntKind.u64 gv)):=((Upd.refl _ _).setCell (p:=⟨w.heap.size,0,none⟩) (by simp) _).setCell (p:=⟨w.heap.size,1,none⟩) (by simp) _
 ·have hgl:g < w.heap.size:=heap_lt HP.out.2.2.2.2.2.2.1
  exact H5.out.upd hq (by simp;omega) (by simp;omega) (by simp;omega)
 ·exact ⟨HA1.out.1,hq.heap H8.out (by simp;omega),hq.heap HM.out (by simp;omega)⟩
 ·exact hq.heap H7.out (by simp;omega)
set_option maxRecDepth 100000 in
theorem aRelease_some (a p g f m : Nat) (L : List Ent) (c : Nat) (gens : List Int) (free : List Bool) (i : Nat) (hg : Int) (b : Nat) (w : World) (h : ArenaIs w a (some ⟨p, 0, none⟩) m L c) (hp : PoolIs w p g f gens free)
    (hv:val? L (i:Nat)=some (.pointer (some ⟨b,0,none⟩))) (hb:w.cell? ⟨b,0,none⟩=some (.int .u64 hg)) (hfr:free[i]?=some false) (hap:a≠p) (haf:a≠f) (hag:a≠g) (hmp:m≠p) (hmf:m≠f) (hmg:m≠g) :
    Calls Tryz.prog 85 #[.pointer (some ⟨a,0,none⟩),.agg #[.int .i64 i,.int .u64 hg]] w fun e w'=>e=.returned (.bool true)∧Upd [p,g,f,m] w w' ∧
     PoolIs w' p g f (gens.set i (IntKind.u64.wrap (gens.getD i 0+1))) (free.set i true)∧ArenaIs w' a (some ⟨p,0,none⟩) m (dropEnt i L) c:=by
 have HP:=qh hp
 have HA:=qh h
 have HG:=fun (W:World) (hW:PoolIs W p g f gens free)=>pGive_any p g f gens free i W hW hfr
 replace HG:=qh HG
 clear hp h
 go_enter Tryz.func85,Tryz.ntmps85
 go_wp2_with fail
 refine (aFind_some a (some ⟨p,0,none⟩) m L c i hg b hg _ (HA.out.below ((Below.refl _ _).alloc (Nat.le_refl _) _)) hv (keep ((Below.refl _ _).alloc (Nat.le_refl _) _) hb)).mono ?_
 rintro e w1 ⟨rfl,hb1⟩
 have hB1:Below w.heap.size w w1:=((Below.refl _ _).alloc (Nat.le_refl _) _).trans (hb1.mono (by simp))
 have b0:=Below.heap' hb1 (heap_alloc_new w (.cells #[.int .i64 i,.int .u64 hg] 71))
 have A1:=HA.out.below hB1
 have P1:=HP.out.below hB1
 have a1:=A1.cells.2
 have d0:w1.cell? ⟨w.heap.size,0,none⟩=some (.int .i64 i):=by rw [cell_of_heap b0];rfl
 have hmw:m < w1.heap.size:=heap_lt A1.2.2
 have haw:a < w.heap.size:=heap_lt HA.out.2.1
 have hmw0:m < w.heap.size:=heap_lt HA.out.2.2
 have hpw0:p < w.heap.size:=heap_lt HP.out.2.2.2.2.2.1
 have hgw0:g < w.heap.size:=heap_lt HP.out.2.2.2.2.2.2.1
 have hfw0:f < w.heap.size:=heap_lt HP.out.2.2.2.2.2.2.2
 have hdel:=run_delete (P:=Tryz.prog) (KT:=3) (ty:=0) (w:=w1.drew) (i:Int) Tryz.underlying160 Tryz.underlying3 A1.2.2
 have HB1:=qh hB1
 have B0:=qh b0
 have HA1:=qh A1
 have HP1:=qh P1
 clear hb1 hB1 b0 A1 P1 hb hv
 go_wp2_with fail
 go_region
 clear hdel
 have hU5:Upd [p,g,f,m] w (World.setObj' w1.drew m (Obj.map (ents (dropEnt (↑i) L)) c)):=((Upd.of_below HB1.out).drew).setObj (by simp) _
 have hm5:(World.setObj' w1.drew m (Obj.map (ents (dropEnt (↑i) L)) c)).heap[m]?=some (.map (ents (dropEnt i L)) c):=heap_setObj_same _ hmw
 have h5:∀ b o,w1.heap[b]?=some o→b≠m→(World.setObj' w1.drew m (Obj.map (ents (dropEnt (↑i) L)) c)).heap[b]?=some o:=by
  intro b o hb hn;rw [heap_setObj_other _ hn];exact hb
 generalize World.setObj' w1.drew m (Obj.map (ents (dropEnt (↑i) L)) c)=w5 at *
 have b1:=h5 w.heap.size _ B0.out (by omega)
 have b2:=h5 a _ HA1.out.2.1 HA1.out.1
 have HP5:PoolIs w5 p g f gens free:=by
  obtain ⟨q1,q2,q3,q4,q5,q6,q7,q8⟩:=HP1.out;exact ⟨q1,q2,q3,q4,q5,h5 _ _ q6 (fun e=>hmp e.symm),h5 _ _ q7 (fun e=>hmg e.symm),h5 _ _ q8 (fun e=>hmf e.symm)⟩
 have HA5:ArenaIs w5 a (some ⟨p,0,none⟩) m (dropEnt i L) c:=⟨HA1.out.1,b2,hm5⟩
 have c0:w5.cell? ⟨a,0,none⟩=some (.pointer (some ⟨p,0,none⟩)):=HA5.cells.1
 have c1:w5.cell? ⟨w.heap.size,0,none⟩=some (.int .i64 i):=by rw [cell_of_heap b1];rfl
 have H5:=qh HP5
 have H6:=qh HA5
 have H7:=qh hU5
 clear HP5 HA5 hU5 hm5 h5 b1 b2 a1 d0
 go_wp2_with fail
 go_still_tail 6,(by kernel_rfl)
 change wpList _ _ _ _ _ w5.drew
 have H8:Hid (PoolIs w5.drew p g f gens free):=H5.out
 go_wp2_with fail
 refine (HG.out _ H8.out).mono ?_
 rintro e w6 ⟨rfl,hu6,hp6⟩
 go_wp2_with fail
 go_ret
 refine ⟨rfl,?_,hp6,?_⟩
 ·exact (H7.out.drew).trans (hu6.mono (by simp +contextual))
 ·have h9:ArenaIs w5.drew a (some ⟨p,0,none⟩) m (dropEnt i L) c:=H6.out
  exact h9.upd hu6 (by simp [hap,haf,hag]) (by simp [hmp,hmf,hmg])
def AG (w:World) (R:List Nat) (p:Option Addr) (A:AR):Prop:=ArenaG 162 192 w R p A
theorem AG.is {w:World} {R:List Nat} {p:Option Addr} {A:AR} (h:AG w R p A):ArenaIs w A.a p A.m (A.L.map AEnt.ent) A.c:=⟨h.1,h.2.1,h.2.2.1⟩
theorem gLive (A : AR) (R : List Nat) (p : Option Addr) (w : World) (h : AG w R p A) :
    Calls Tryz.prog 59 #[.pointer (some ⟨A.a,0,none⟩)] w fun e w'=>e=.returned (.int .i64 A.L.length)∧Below w.heap.size w w':=by
 have:=aLive_any A.a p A.m (A.L.map AEnt.ent) A.c w h.is
 rwa [List.length_map] at this
theorem gNew (p : Option Addr) (R : List Nat) (w : World) :
    Calls Tryz.prog 46 #[.pointer p] w fun e w'=>e=.returned (.pointer (some ⟨w.heap.size+1,0,none⟩))∧Below w.heap.size w w'∧w'.heap.size=w.heap.size+2∧AG w' R p ⟨w.heap.size+1,w.heap.size,[],0⟩ :=
 (aNew_any p w).mono fun _ _ ⟨h1,h2,h3,h4⟩=>⟨h1,h2,h4,h3.1,h3.2.1,h3.2.2,by simp,by simp,by simp⟩
theorem gGet_some (A : AR) (R : List Nat) (p : Option Addr) (hs hg : Int) (x : AEnt) (w : World) (h : AG w R p A) (hx : x ∈ A.L) (h1 : hs = (x.slot : Int)) (h2 : x.gen = hg) :
    Calls Tryz.prog 62 #[.pointer (some ⟨A.a,0,none⟩),.agg #[.int .i64 hs,.int .u64 hg]] w fun e w'=>e=.returned (.tuple #[.pointer (some ⟨x.blk,1,none⟩),.bool true])∧Below w.heap.size w w':=by
 have hb:w.cell? ⟨x.blk,0,none⟩=some (.int .u64 x.gen):=by rw [cell_of_heap (h.2.2.2.2.2 x hx).2];rfl
 refine (aGet_some A.a p A.m _ A.c hs hg x.blk x.gen w h.is (val_some_of h.2.2.2.1 hx h1) hb).mono fun e w' ⟨he,hw⟩=>⟨?_,hw⟩
 rw [he,h2]
 simp
theorem gGet_none (A : AR) (R : List Nat) (p : Option Addr) (hs hg : Int) (w : World) (h : AG w R p A) (hn : ∀ x, x ∈ A.L → ¬ (hs = (x.slot : Int) ∧ x.gen = hg)) :
    Calls Tryz.prog 62 #[.pointer (some ⟨A.a,0,none⟩),.agg #[.int .i64 hs,.int .u64 hg]] w fun e w'=>e=.returned (.tuple #[.pointer none,.bool false])∧Below w.heap.size w w':=by
 by_cases hf:∃ x,x∈A.L∧hs=(x.slot:Int)
 ·obtain ⟨x,hx,h1⟩:=hf
  have hb:w.cell? ⟨x.blk,0,none⟩=some (.int .u64 x.gen):=by rw [cell_of_heap (h.2.2.2.2.2 x hx).2];rfl
  have hne:¬ x.gen=hg:=fun e=>hn x hx ⟨h1,e⟩
  refine (aGet_some A.a p A.m _ A.c hs hg x.blk x.gen w h.is (val_some_of h.2.2.2.1 hx h1) hb).mono fun e w' ⟨he,hw⟩=>⟨?_,hw⟩
  rw [he,if_neg hne,beq_eq_false_iff_ne.2 hne]
 ·exact aGet_none A.a p A.m _ A.c hs hg w h.is (find_none_of fun e he h1=>hf ⟨e,he,h1⟩)
theorem gRelease_some (A : AR) (p g f : Nat) (R : List Nat) (gens : List Int) (free : List Bool) (hs hg : Int) (x : AEnt) (w : World) (h : AG w R (some ⟨p, 0, none⟩) A) (hp : PoolIs w p g f gens free)
    (hx:x∈A.L) (h1:hs=(x.slot:Int)) (h2:x.gen=hg) (hfr:free[x.slot]?=some false) (hap:A.a≠p) (haf:A.a≠f) (hag:A.a≠g) (hmp:A.m≠p) (hmf:A.m≠f) (hmg:A.m≠g) (hR:p∈R∧g∈R∧f∈R∧A.m∈R) :
    Calls Tryz.prog 85 #[.pointer (some ⟨A.a,0,none⟩),.agg #[.int .i64 hs,.int .u64 hg]] w fun e w'=>e=.returned (.bool true)∧Upd [p,g,f,A.m] w w' ∧
     PoolIs w' p g f (gens.set x.slot (IntKind.u64.wrap (gens.getD x.slot 0+1))) (free.set x.slot true)∧AG w' R (some ⟨p,0,none⟩) { A with L:=A.L.filter fun e=>e.slot≠x.slot }:=by
 have hb:w.cell? ⟨x.blk,0,none⟩=some (.int .u64 hg):=by rw [cell_of_heap (h.2.2.2.2.2 x hx).2,h2];rfl
 subst h1
 refine (aRelease_some A.a p g f A.m _ A.c gens free x.slot hg x.blk w h.is hp (val_some_of h.2.2.2.1 hx rfl) hb hfr hap haf hag hmp hmf hmg).mono fun e w' ⟨he,hu,hp',ha⟩=>⟨he,hu,hp',?_⟩
 have ha2:=ha.2.2
 rw [drop_ents h.2.2.2.1] at ha2
 exact ArenaG.filter h hu (by simp;exact ⟨hR.1,hR.2.1,hR.2.2.1,hR.2.2.2⟩) _ ha.2.1 ha2
theorem gAlloc_some (A : AR) (p g f : Nat) (R : List Nat) (gens : List Int) (free : List Bool) (cs : List Value) (hcl : cs.length = 120) (w : World) (h : AG w R (some ⟨p, 0, none⟩) A) (hp : PoolIs w p g f gens free) (hn : true ∈ free)
    (hap:A.a≠p) (haf:A.a≠f) (hmp:A.m≠p) (hmf:A.m≠f) (hmg:A.m≠g) (hR:p∈R∧f∈R∧A.m∈R) (hRl:∀ r,r∈R→r < w.heap.size) (hnew:∀ e,e∈A.L→e.slot≠free.idxOf true) :
    Calls Tryz.prog 90 #[.pointer (some ⟨A.a,0,none⟩),.agg cs.toArray] w fun e w'=>e=.returned (.tuple #[.agg #[.int .i64 (free.idxOf true),.int .u64 (gens.getD (free.idxOf true) 0)],.int .i64 0]) ∧
     Upd [p,f,A.m] w w'∧PoolIs w' p g f gens (free.set (free.idxOf true) false)∧∃ b,w.heap.size≤b∧AG w' R (some ⟨p,0,none⟩) { A with L:=A.L++[⟨free.idxOf true,gens.getD (free.idxOf true) 0,b,cs,A.c⟩],c:=A.c+1 }:=by
 refine (aAlloc_some A.a p g f A.m _ A.c gens free cs hcl w h.is hp hn hap haf hmp hmf hmg (find_none_of fun e he h1=>hnew e he (by omega))).mono fun e w' ⟨he,hu,hp',b,hb,ha,hc⟩=>⟨he,hu,hp',b,hb,?_⟩
 refine ArenaG.snoc h hu (by simp;exact ⟨hR.1,hR.2.1,hR.2.2⟩) ha.2.1 ?_ hnew hb hRl hc
 rw [List.map_append]
 exact ha.2.2
end AMnode
end Go.Proofs.YtbdealmkmpnpoaaGreat
namespace Go.Proofs.YtbdealmkmpnpoaaGreat.M
open Go.RowKit
inductive NK where
 | raw
 | leaf (f:LF)
 | inn (b:BN Sl)
structure ND where
 k:NK
 cs:List Value
 B:List Nat
def ND.bn (x:ND):BN Sl:=match x.k with
 | .raw=>lf0
 | .leaf f=>f.bn
 | .inn b=>b
def zlc:List Value:=.int .u64 0::((List.replicate 15 zeroSl).flatMap slc++[.int .u64 0,.int .u8 0,.bool false,.int .i64 0,.int .u64 0])
def zic:List Value:=[.bool false,.slice none 0 0,.slice none 0 0,.slice none 0 0,.string ⟨#[]⟩,.bool false,.int .i64 0,.int .u64 0]
theorem zlc_len:zlc.length=111:=by kernel_rfl
theorem zlc_eq:zlc.toArray=Tryz.zeroCells95:=by kernel_rfl
structure NOK (w:World) (ρ:Nat→Nat) (x:ND):Prop where
 len:x.cs.length=120
 ro:∀ q,q∈x.B→ρ q=5
 lt:∀ q,q∈x.B→q < w.heap.size
 lf:∀ f,x.k=.leaf f→LFOK f∧x.cs=.bool true::(lfc f++zic)
 inn:∀ b,x.k=.inn b→b.leaf=false∧(∃ lo,NodeOK lo b)∧b.keys.length≤5∧∃ ic,x.cs=.bool false::(zlc++ic)∧InC w x.B ic (down b)
structure BW (w0 w:World) (ρ:Nat→Nat) (P:Nat×Nat×Nat) (gens:List Int) (free:List Bool) (D:List ArD):Prop where
 ro:Ro w0 w ρ
 ars:Ars w ρ (some P) gens free D
theorem RU.toUpd {w w':World} {ρ ρ':Nat→Nat} {rs:List Nat} (h:RU rs w w' ρ ρ'):Upd ((List.range w.heap.size).filter fun k=>decide (ρ k∈rs)) w w' :=
 ⟨h.os,h.tape,h.output,h.size,fun k hk hn=>h.block k hk fun hr=>hn (List.mem_filter.2 ⟨List.mem_range.2 hk,by simpa using hr⟩)⟩
section
variable {w0 w w':World} {ρ ρ':Nat→Nat} {P:Nat×Nat×Nat} {gens:List Int} {free:List Bool} {D:List ArD} {rs S:List Nat} {i t:Nat} {d:ArD} {x:ND} {B:List Nat}
theorem NOK.ru (h:NOK w ρ x) (hu:RU rs w w' ρ ρ') (h5:5∉rs):NOK w' ρ' x:=by
 refine ⟨h.len,fun q hq=>by rw [hu.role _ (h.lt q hq)];exact h.ro q hq,fun q hq=>Nat.lt_of_lt_of_le (h.lt q hq) hu.size,h.lf,fun b hb=>?_⟩
 obtain ⟨a1,a2,a3,ic,a4,a5⟩:=h.inn b hb
 exact ⟨a1,a2,a3,ic,a4,a5.upd (RU.toUpd hu) fun q hq hm=>h5 (by have:=(List.mem_filter.1 hm).2;rw [h.ro q hq] at this;simpa using this)⟩
def mkN (ρ:Nat→Nat) (n:Nat) (B:List Nat) (r:Nat) (q:Nat):Nat:=if q < n then ρ q else if q∈B then r else 0
theorem mkN_old {n q r:Nat} (h:q < n):mkN ρ n B r q=ρ q:=if_pos h
theorem mkN_new {n q r:Nat} (h:n≤q) (hq:q∈B):mkN ρ n B r q=r:=by unfold mkN;rw [if_neg (by omega),if_pos hq]
theorem RU.mkN (hu:Upd S w w') (hS:∀ k,k∈S→k < w.heap.size→ρ k∈rs) (hB:∀ q,q∈B→q < w'.heap.size) (r:Nat):RU rs w w' ρ (mkN ρ w.heap.size B r) :=
 ⟨hu.os,hu.tape,hu.output,hu.size,fun k hk hn=>hu.block k hk fun hm=>hn (hS k hm hk),fun k hk=>mkN_old hk,fun k hk=>by
  have:=hu.size;unfold M.mkN
  rw [if_neg (by omega),if_neg (fun hm=>by have:=hB k hm;omega)]⟩
theorem BW.below (h:BW w0 w ρ P gens free D) (hb:Below w.heap.size w w'):BW w0 w' ρ P gens free D:=⟨h.ro.step (RU.below (rs:=[]) h.ro hb) (by simp),h.ars.below h.ro hb⟩
theorem BW.ru (h:BW w0 w ρ P gens free D) (hu:RU rs w w' ρ ρ') (hr:∀ r,r∈rs→4≤r∧r≤9):BW w0 w' ρ' P gens free D:=⟨h.ro.step hu (fun h0=>by have:=hr 0 h0;omega),h.ars.ru hu hr⟩
theorem BW.ag (h:BW w0 w ρ P gens free D) (hd:D[i]?=some d) (ta:d.ta=162) (tc:d.tc=192):AMnode.AG w [] (some ⟨P.1,0,none⟩) d.A:=by
 have:=(h.ars.ar i d hd).g
 rw [ta,tc] at this
 exact this
theorem BW.get (h : BW w0 w ρ P gens free D) (hd : D[i]? = some d) (ta : d.ta = 162) (tc : d.tc = 192) {e : AEnt} {hh : Hd} (he : e ∈ d.A.L) (h1 : (e.slot : Int) = hh.1) (h2 : e.gen = hh.2) :
    Calls Tryz.prog 62 #[.pointer (some ⟨d.A.a,0,none⟩),hV hh] w fun x w'=>x=.returned (.tuple #[.pointer (some ⟨e.blk,1,none⟩),.bool true])∧Below w.heap.size w w' :=
 AMnode.gGet_some d.A [] _ hh.1 hh.2 e w (h.ag hd ta tc) he h1.symm h2
theorem BW.dead (h : BW w0 w ρ P gens free D) (hd : D[i]? = some d) (ta : d.ta = 162) (tc : d.tc = 192) {hh : Hd} (hn : ∀ e, e ∈ d.A.L → ¬ (hh.1 = (e.slot : Int) ∧ e.gen = hh.2)) :
    Calls Tryz.prog 62 #[.pointer (some ⟨d.A.a,0,none⟩),hV hh] w fun x w'=>x=.returned (.tuple #[.pointer none,.bool false])∧Below w.heap.size w w' :=
 AMnode.gGet_none d.A [] _ hh.1 hh.2 w (h.ag hd ta tc) hn
theorem BW.cellsOf (h:BW w0 w ρ P gens free D) (hd:D[i]?=some d) (tc:d.tc=192) {e:AEnt} (he:e∈d.A.L):w.heap[e.blk]?=some (.cells (.int .u64 e.gen::e.xs).toArray 192):=by
 have:=((h.ars.ar i d hd).g.2.2.2.2.2 e he).2
 rw [tc] at this
 exact this
end
abbrev NF:=List (Hd×ND)
def fset (F:NF) (h:Hd) (n:ND):NF:=F.map fun x=>if x.1=h then (x.1,n) else x
section
variable {F:NF} {h:Hd} {n:ND} {z:Hd×ND}
theorem fset_fst:(fset F h n).map (·.1)=F.map (·.1):=by
 unfold fset
 rw [List.map_map]
 refine List.map_congr_left fun x _=>?_
 simp only [Function.comp]
 split <;> rfl
theorem fset_len:(fset F h n).length=F.length:=List.length_map _
theorem mem_fset (hx:∃ m,(h,m)∈F):z∈fset F h n↔z=(h,n)∨(z.1≠h∧z∈F):=by
 unfold fset
 rw [List.mem_map]
 refine ⟨?_,?_⟩
 ·rintro ⟨x,hx,rfl⟩
  split
  ·rename_i e;left;rw [e]
  ·rename_i e;exact .inr ⟨e,hx⟩
 ·rintro (rfl | ⟨h1,h2⟩)
  ·obtain ⟨m,hm⟩:=hx
   exact ⟨_,hm,if_pos rfl⟩
  ·exact ⟨z,h2,if_neg h1⟩
end
theorem nd_inj {α β:Type} {f:α→β} {L:List α} (hn:(L.map f).Nodup) {x y:α} (hx:x∈L) (hy:y∈L) (h:f x=f y):x=y:=by
 obtain ⟨i,hi⟩:=List.mem_iff_getElem?.1 hx
 obtain ⟨j,hj⟩:=List.mem_iff_getElem?.1 hy
 have h1:(L.map f)[i]?=some (f x):=by rw [List.getElem?_map,hi];rfl
 have h2:(L.map f)[j]?=some (f x):=by rw [List.getElem?_map,hj,h];rfl
 have:=(List.getElem?_inj (List.getElem?_eq_some_iff.1 h1).1 hn).1 (h1.trans h2.symm)
 subst this
 rw [hi] at hj
 injection hj
theorem nd_sub {α:Type} [DecidableEq α]:∀ {l m:List α},l.Nodup→(∀ a,a∈l→a∈m)→l.length≤m.length
 | [],_,_,_=>Nat.zero_le _
 | x::l,m,hn,hs=>by
  rw [List.nodup_cons] at hn;have h1:=nd_sub (m:=m.erase x) hn.2 fun a ha=>(List.mem_erase_of_ne (fun e=>hn.1 (by rw [← e];exact ha))).2 (hs a (List.mem_cons_of_mem _ ha))
  have h2:=hs x (List.mem_cons_self ..);rw [List.length_erase_of_mem h2] at h1;have h3:0 < m.length:=List.length_pos_of_mem h2;rw [List.length_cons];omega
structure TS where
 ρ:Nat→Nat
 P:Nat×Nat×Nat
 gens:List Int
 free:List Bool
 D:List ArD
 i:Nat
 t:Nat
 d:ArD
 r:Hd
 n:Nat
 ly:Nat
 F:NF
abbrev treeC (p a:Nat) (r:Hd) (n ly:Nat):Array Value:=#[.pointer (some ⟨p,0,none⟩),.pointer (some ⟨a,0,none⟩),.int .i64 r.1,.int .u64 r.2,.int .i64 n,.int .i64 ly,.bool false]
structure AM (w0 w:World) (T:TS):Prop where
 bw:BW w0 w T.ρ T.P T.gens T.free T.D
 hd:T.D[T.i]?=some T.d
 ta:T.d.ta=162
 tc:T.d.tc=192
 rol:T.ρ T.t=4
 blk:w.heap[T.t]?=some (.cells (treeC T.P.1 T.d.A.a T.r T.n T.ly) 73)
 ent:∀ x,x∈T.F→∃ e,e∈T.d.A.L∧(e.slot:Int)=x.1.1∧e.gen=x.1.2∧e.xs=x.2.cs
 ok:∀ x,x∈T.F→NOK w T.ρ x.2
 ndf:(T.F.map (·.1)).Nodup
 len:T.d.A.L.length=T.F.length
 sep:∀ j d' e e',j≠T.i→T.D[j]?=some d'→e∈d'.A.L→e'∈T.d.A.L→e.slot≠e'.slot
 cnt:T.free.count true+(T.D.map fun d=>d.A.L.length).sum=T.free.length
def Et (L L':List AEnt):Prop:=∀ y,y∈L→∃ y',y'∈L'∧y'.slot=y.slot∧y'.gen=y.gen∧y'.blk=y.blk
theorem Et.refl (L:List AEnt):Et L L:=fun y hy=>⟨y,hy,rfl,rfl,rfl⟩
theorem Et.trans {L L1 L2:List AEnt} (h:Et L L1) (k:Et L1 L2):Et L L2:=fun y hy=>by
 obtain ⟨y1,a,b,c,d⟩:=h y hy
 obtain ⟨y2,a2,b2,c2,d2⟩:=k y1 a
 exact ⟨y2,a2,b2.trans b,c2.trans c,d2.trans d⟩
theorem Et.app (L M:List AEnt):Et L (L++M):=fun y hy=>⟨y,List.mem_append_left _ hy,rfl,rfl,rfl⟩
theorem Et.turn (L:List AEnt) (s:Nat) (v:List Value):Et L (L.map fun y=>if y.slot=s then { y with xs:=v } else y):=fun y hy=>by
 refine ⟨_,List.mem_map.2 ⟨y,hy,rfl⟩,?_⟩
 split <;> exact ⟨rfl,rfl,rfl⟩
structure TEv (w w':World) (T T':TS):Prop where
 ru:RU [1,2,3,4,10+3*T.i,12+3*T.i] w w' T.ρ T'.ρ
 P:T'.P=T.P
 i:T'.i=T.i
 t:T'.t=T.t
 a:T'.d.A.a=T.d.A.a
 m:T'.d.A.m=T.d.A.m
 dl:T'.D.length=T.D.length
 dj:∀ j,j≠T.i→T'.D[j]?=T.D[j]?
 fl:T'.free.length=T.free.length
 et:Et T.d.A.L T'.d.A.L
section
variable {w0 w w' w1:World} {T T1 T2:TS} {x:Hd×ND} {e:AEnt} {S:List Nat}
theorem TEv.refl (h:AM w0 w T):TEv w w T T:=⟨(RU.refl (rs:=[]) h.bw.ro).mono (by simp),rfl,rfl,rfl,rfl,rfl,rfl,fun _ _=>rfl,rfl,Et.refl _⟩
theorem TEv.trans (h:TEv w w1 T T1) (k:TEv w1 w' T1 T2):TEv w w' T T2:=by
 have hr:=k.ru
 rw [h.i] at hr
 exact ⟨h.ru.trans hr,k.P.trans h.P,k.i.trans h.i,k.t.trans h.t,k.a.trans h.a,k.m.trans h.m,k.dl.trans h.dl,fun j hj=>(k.dj j (by rw [h.i];exact hj)).trans (h.dj j hj),k.fl.trans h.fl,h.et.trans k.et⟩
theorem AM.below (h:AM w0 w T) (hb:Below w.heap.size w w'):AM w0 w' T :=
 ⟨h.bw.below hb,h.hd,h.ta,h.tc,h.rol,Below.heap' hb h.blk,h.ent,fun x hx=>(h.ok x hx).ru (RU.below (rs:=[]) h.bw.ro hb) (by simp),h.ndf,h.len,h.sep,h.cnt⟩
theorem TEv.below (h:AM w0 w T) (hb:Below w.heap.size w w'):TEv w w' T T:=⟨(RU.below (rs:=[]) h.bw.ro hb).mono (by simp),rfl,rfl,rfl,rfl,rfl,rfl,fun _ _=>rfl,rfl,Et.refl _⟩
theorem AM.ru {rs:List Nat} {ρ':Nat→Nat} (h:AM w0 w T) (hu:RU rs w w' T.ρ ρ') (hr:∀ r,r∈rs→6≤r∧r≤9):AM w0 w' { T with ρ:=ρ' } :=
 ⟨h.bw.ru hu (fun r hm=>by have:=hr r hm;omega),h.hd,h.ta,h.tc,by rw [← h.rol];exact hu.role _ (heap_lt h.blk),hu.heap h.blk (by rw [h.rol];exact fun hm=>by have:=hr 4 hm;omega),h.ent,fun x hx=>(h.ok x hx).ru hu (fun hm=>by have:=hr 5 hm;omega),h.ndf,h.len,h.sep,h.cnt⟩
theorem AM.marks (h : AM w0 w T) (hb : Below w.heap.size w w') (B : List Nat) (hB : ∀ q, q ∈ B → q < w'.heap.size) :
    AM w0 w' { T with ρ:=mkN T.ρ w.heap.size B 5 }∧TEv w w' T { T with ρ:=mkN T.ρ w.heap.size B 5 }:=by
 have hU:RU [] w w' T.ρ (mkN T.ρ w.heap.size B 5):=RU.mkN (Upd.of_below (S:=[]) hb) (by simp) hB 5
 exact ⟨h.ru hU (by simp),⟨hU.mono (by simp),rfl,rfl,rfl,rfl,rfl,rfl,fun _ _=>rfl,rfl,Et.refl _⟩⟩
theorem AM.cells (h : AM w0 w T) :
    w.cell? ⟨T.t,0,none⟩=some (.pointer (some ⟨T.P.1,0,none⟩))∧w.cell? ⟨T.t,1,none⟩=some (.pointer (some ⟨T.d.A.a,0,none⟩))∧w.cell? ⟨T.t,2,none⟩=some (.int .i64 T.r.1)∧w.cell? ⟨T.t,3,none⟩=some (.int .u64 T.r.2)∧w.cell? ⟨T.t,4,none⟩=some (.int .i64 T.n)∧w.cell? ⟨T.t,5,none⟩=some (.int .i64 T.ly)∧w.cell? ⟨T.t,6,none⟩=some (.bool false)∧T.t < w.heap.size:=by
 refine ⟨?_,?_,?_,?_,?_,?_,?_,heap_lt h.blk⟩ <;> rw [cell_of_heap h.blk] <;> rfl
theorem AM.slots (h:AM w0 w T):(T.d.A.L.map AEnt.slot).Nodup:=(h.bw.ars.ar T.i T.d h.hd).g.2.2.2.1
theorem slot_uniq {L:List AEnt} (hn:(L.map AEnt.slot).Nodup) {e x:AEnt} (he:e∈L) (hx:x∈L) (hs:e.slot=x.slot):e=x:=nd_inj hn he hx hs
theorem AM.node (h:AM w0 w T) (he:e∈T.d.A.L):∃ x,x∈T.F∧(e.slot:Int)=x.1.1∧e.gen=x.1.2:=by
 have h1:∀ (F:NF) (L:List AEnt),(F.map (·.1)).Nodup→(∀ x,x∈F→∃ e,e∈L∧(e.slot:Int)=x.1.1∧e.gen=x.1.2)→L.length≤F.length→∀ e,e∈L→∃ x,x∈F∧(e.slot:Int)=x.1.1∧e.gen=x.1.2:=by
  intro F L hF hL hl e he;by_cases hm:((e.slot:Int),e.gen)∈F.map (·.1)
  ·obtain ⟨x,hx,hxe⟩:=List.mem_map.1 hm
   exact ⟨x,hx,by rw [hxe],by rw [hxe]⟩
  ·exfalso
   have:=nd_sub hF (m:=(L.map fun e=>((e.slot:Int),e.gen)).erase ((e.slot:Int),e.gen)) (fun a ha=>by
    obtain ⟨x,hx,rfl⟩:=List.mem_map.1 ha;obtain ⟨y,hy,h1,h2⟩:=hL x hx
    refine (List.mem_erase_of_ne (fun hh=>hm (by rw [← hh];exact ha))).2 (List.mem_map.2 ⟨y,hy,Prod.ext h1 h2⟩))
   rw [List.length_erase_of_mem (List.mem_map.2 ⟨e,he,rfl⟩),List.length_map,List.length_map] at this;have:0 < L.length:=List.length_pos_of_mem he;omega
 exact h1 T.F T.d.A.L h.ndf (fun x hx=>by obtain ⟨e,a,b,c,_⟩:=h.ent x hx;exact ⟨e,a,b,c⟩) (by rw [h.len];exact Nat.le_refl _) e he
theorem AM.get (h : AM w0 w T) (hx : x ∈ T.F) : ∃ e, e ∈ T.d.A.L ∧ (e.slot : Int) = x.1.1 ∧ e.gen = x.1.2 ∧ w.heap[e.blk]? = some (.cells (.int .u64 e.gen :: x.2.cs).toArray 192) ∧
    ∀ W,Below w.heap.size w W→Calls Tryz.prog 62 #[.pointer (some ⟨T.d.A.a,0,none⟩),hV x.1] W fun y W'=>y=.returned (.tuple #[.pointer (some ⟨e.blk,1,none⟩),.bool true])∧Below W.heap.size W W':=by
 obtain ⟨e,e1,e2,e3,e4⟩:=h.ent x hx
 refine ⟨e,e1,e2,e3,?_,fun W hW=>(h.below hW).bw.get h.hd h.ta h.tc e1 e2 e3⟩
 have:=h.bw.cellsOf h.hd h.tc e1
 rw [e4] at this
 exact this
theorem AM.dead (h : AM w0 w T) {g : Hd} (hg : ∀ x, x ∈ T.F → x.1 ≠ g) (W : World) (hW : Below w.heap.size w W) :
    Calls Tryz.prog 62 #[.pointer (some ⟨T.d.A.a,0,none⟩),hV g] W fun y W'=>y=.returned (.tuple #[.pointer none,.bool false])∧Below W.heap.size W W' :=
 (h.below hW).bw.dead h.hd h.ta h.tc fun e he hh=>by
  obtain ⟨x,hx,h1,h2⟩:=h.node he;exact hg x hx (Prod.ext (by rw [hh.1,h1]) (by rw [← hh.2,h2]))
theorem sum_set {D:List ArD} {i:Nat} {d d':ArD} (h:D[i]?=some d):((D.set i d').map fun d=>d.A.L.length).sum+d.A.L.length=(D.map fun d=>d.A.L.length).sum+d'.A.L.length:=by
 induction D generalizing i with
 | nil=>simp at h
 | cons a D ih =>
  cases i with
  | zero=>simp at h;subst h;simp;omega
  | succ i=>have:=ih (i:=i) (by simpa using h);simp only [zs3,List.map_cons,List.sum_cons];omega
theorem AM.store (h : AM w0 w T) (hx : x ∈ T.F) (he : e ∈ T.d.A.L) (e1 : (e.slot : Int) = x.1.1) (e2 : e.gen = x.1.2) (n' : ND) (hk : NOK w' T.ρ n') (hu : Upd [e.blk] w w')
    (hb:w'.heap[e.blk]?=some (.cells (.int .u64 e.gen::n'.cs).toArray 192)) :
    ∃ T',AM w0 w' T'∧TEv w w' T T'∧T'.F=fset T.F x.1 n'∧T'.n=T.n∧T'.ly=T.ly∧T'.r=T.r∧T'.free=T.free:=by
 obtain ⟨q1,q2⟩:=h.bw.ars.write h.bw.ro h.hd he hu (xs:=n'.cs) (by rw [h.tc];exact hb)
 have hlt:T.i < T.D.length:=(List.getElem?_eq_some_iff.1 h.hd).1
 have hmem:=fun z=>mem_fset (F:=T.F) (h:=x.1) (n:=n') (z:=z) ⟨x.2,hx⟩
 refine ⟨{ T with D:=T.D.set T.i { T.d with A:={ T.d.A with L:=T.d.A.L.map fun y=>if y.slot=e.slot then { y with xs:=n'.cs } else y } },d:={ T.d with A:={ T.d.A with L:=T.d.A.L.map fun y=>if y.slot=e.slot then { y with xs:=n'.cs } else y } },F:=fset T.F x.1 n' },⟨⟨h.bw.ro.step q2 (by simp;omega),q1⟩,by simp [hlt],h.ta,h.tc,h.rol,q2.heap h.blk (by rw [h.rol];simp;omega),?_,?_,?_,?_,?_,?_⟩,⟨q2.mono (by simp),rfl,rfl,rfl,rfl,rfl,by simp,fun j hj=>?_,rfl,Et.turn _ _ _⟩,rfl,rfl,rfl,rfl,rfl⟩
 ·intro z hz
  rcases (hmem z).1 hz with rfl | ⟨hne,hz⟩
  ·exact ⟨{ e with xs:=n'.cs },List.mem_map.2 ⟨e,he,by simp⟩,e1,e2,rfl⟩
  ·obtain ⟨y,y1,y2,y3,y4⟩:=h.ent z hz
   have hs:y.slot≠e.slot:=fun hs=>by
    have:=slot_uniq h.slots y1 he hs;subst this;exact hne (Prod.ext (by rw [← y2,e1]) (by rw [← y3,e2]))
   exact ⟨y,List.mem_map.2 ⟨y,y1,by simp [hs]⟩,y2,y3,y4⟩
 ·intro z hz
  rcases (hmem z).1 hz with rfl | ⟨_,hz⟩
  ·exact hk
  ·exact (h.ok z hz).ru q2 (by simp;omega)
 ·show ((fset T.F x.1 n').map (·.1)).Nodup
  rw [fset_fst];exact h.ndf
 ·show (T.d.A.L.map _).length=(fset T.F x.1 n').length
  rw [fset_len,List.length_map];exact h.len
 ·intro j d' y y' hj hd' hy hy'
  have hd'':(T.D.set T.i { T.d with A:={ T.d.A with L:=T.d.A.L.map fun y=>if y.slot=e.slot then { y with xs:=n'.cs } else y } })[j]?=some d':=hd';rcases get_set hd'' with ⟨hh,_⟩ | ⟨_,hd'⟩
  ·exact absurd hh.symm hj
  ·obtain ⟨y2,hy2,rfl⟩:=List.mem_map.1 hy'
   have:=h.sep j d' y y2 hj hd' hy hy2;split <;> exact this
 ·have:=sum_set (d':={ T.d with A:={ T.d.A with L:=T.d.A.L.map fun y=>if y.slot=e.slot then { y with xs:=n'.cs } else y } }) h.hd
  have hc:=h.cnt;simp only [List.length_map] at this
  show T.free.count true+((T.D.set T.i _).map fun d=>d.A.L.length).sum=T.free.length
  generalize ((T.D.set T.i _).map fun d=>d.A.L.length).sum=z at this ⊢;omega
 ·exact List.getElem?_set_ne (fun hh=>hj hh.symm)
theorem AM.own (h : AM w0 w T) (r : Hd) (n ly : Nat) (hu : Upd [T.t] w w') (hb : w'.heap[T.t]? = some (.cells (treeC T.P.1 T.d.A.a r n ly) 73)) :
    AM w0 w' { T with r:=r,n:=n,ly:=ly }∧TEv w w' T { T with r:=r,n:=n,ly:=ly }:=by
 have hU:RU [4] w w' T.ρ T.ρ:=RU.upd h.bw.ro hu (fun k hk _=>by simp at hk;subst hk;simp [h.rol])
 exact ⟨⟨h.bw.ru hU (by simp),h.hd,h.ta,h.tc,h.rol,hb,h.ent,fun x hx=>(h.ok x hx).ru hU (by simp),h.ndf,h.len,h.sep,h.cnt⟩,⟨hU.mono (by simp),rfl,rfl,rfl,rfl,rfl,rfl,fun _ _=>rfl,rfl,Et.refl _⟩⟩
theorem free_idx {free:List Bool} (h:true∈free):free.idxOf true < free.length∧free[free.idxOf true]?=some true:=by
 have h1:=List.idxOf_lt_length_iff.2 h
 exact ⟨h1,by rw [List.getElem?_eq_getElem h1,List.getElem_idxOf]⟩
theorem AM.alloc (h : AM w0 w T) (n : ND) (hk : NOK w T.ρ n) (hfr : true ∈ T.free) :
    ∃ g:Hd,(∀ z,z∈T.F→z.1≠g)∧Calls Tryz.prog 90 #[.pointer (some ⟨T.d.A.a,0,none⟩),.agg n.cs.toArray] w fun y w' =>
     y=.returned (.tuple #[hV g,.int .i64 0])∧∃ T',AM w0 w' T'∧TEv w w' T T'∧T'.F=T.F++[(g,n)]∧T'.n=T.n∧T'.ly=T.ly∧T'.r=T.r∧T'.free.count true+1=T.free.count true:=by
 obtain ⟨q1,q2⟩:=free_idx hfr
 have hnw:∀ e,e∈T.d.A.L→e.slot≠T.free.idxOf true:=fun e he=>idx_ne' ((h.bw.ars.ar T.i T.d h.hd).th e he).2 hfr
 have hlt:T.i < T.D.length:=(List.getElem?_eq_some_iff.1 h.hd).1
 have hgn:∀ z,z∈T.F→z.1≠(((T.free.idxOf true:Nat):Int),T.gens.getD (T.free.idxOf true) 0):=fun z hz hh=>by
  obtain ⟨e,e1,e2,_⟩:=h.ent z hz;rw [hh] at e2;exact hnw e e1 (by have:(e.slot:Int)=((T.free.idxOf true:Nat):Int):=e2;omega)
 refine ⟨(((T.free.idxOf true:Nat):Int),T.gens.getD (T.free.idxOf true) 0),hgn,?_⟩
 obtain ⟨n1,n3,n4,n5,n6,n7⟩:=h.bw.ars.neq h.hd
 have hpR:=h.bw.ars.pR h.hd
 have hA:=h.bw.ars.gR h.hd
 rw [h.ta,h.tc] at hA
 have hp:=h.bw.ars.pool.1
 have hl:∀ q,q∈[T.P.1,T.P.2.1,T.P.2.2,T.d.A.m]→q < w.heap.size:=by
  intro q hq;simp only [List.mem_cons,List.not_mem_nil,or_false] at hq;rcases hq with rfl | rfl | rfl | rfl
  ·exact heap_lt hp.2.2.2.2.2.1
  ·exact heap_lt hp.2.2.2.2.2.2.1
  ·exact heap_lt hp.2.2.2.2.2.2.2
  ·exact heap_lt hA.2.2.1
 refine (AMnode.gAlloc_some T.d.A T.P.1 T.P.2.1 T.P.2.2 [T.P.1,T.P.2.1,T.P.2.2,T.d.A.m] T.gens T.free n.cs hk.len w hA hp hfr n1 n3 n5 n6 n7 (by simp) hl hnw).mono ?_
 rintro y w' ⟨hy,hu,hp',b,hb,hA'⟩
 refine ⟨hy,?_⟩
 obtain ⟨a1,a2⟩:=h.bw.ars.alloc h.bw.ro h.hd hfr hu hp' hb (xs:=n.cs) (by rw [h.ta,h.tc];exact hA')
 refine ⟨{ T with ρ:=mark T.ρ b (10+3*T.i),free:=T.free.set (T.free.idxOf true) false,D:=T.D.set T.i { T.d with A:={ T.d.A with L:=T.d.A.L++[⟨T.free.idxOf true,T.gens.getD (T.free.idxOf true) 0,b,n.cs,T.d.A.c⟩],c:=T.d.A.c+1 } },d:={ T.d with A:={ T.d.A with L:=T.d.A.L++[⟨T.free.idxOf true,T.gens.getD (T.free.idxOf true) 0,b,n.cs,T.d.A.c⟩],c:=T.d.A.c+1 } },F:=T.F++[((((T.free.idxOf true:Nat):Int),T.gens.getD (T.free.idxOf true) 0),n)] },⟨⟨h.bw.ro.step a2 (by simp;omega),a1⟩,by simp [hlt],h.ta,h.tc,?_,a2.heap h.blk (by rw [h.rol];simp;omega),?_,?_,?_,?_,?_,?_⟩,⟨a2.mono (by simp),rfl,rfl,rfl,rfl,rfl,by simp,fun j hj=>?_,by simp,Et.app _ _⟩,rfl,rfl,rfl,rfl,?_⟩
 ·show mark T.ρ b (10+3*T.i) T.t=4
  have:=heap_lt h.blk;rw [mark_other (by omega)];exact h.rol
 ·intro z hz
  rcases List.mem_append.1 hz with hz | hz
  ·obtain ⟨e,e1,e2⟩:=h.ent z hz
   exact ⟨e,List.mem_append_left _ e1,e2⟩
  ·simp at hz
   subst hz;exact ⟨⟨T.free.idxOf true,T.gens.getD (T.free.idxOf true) 0,b,n.cs,T.d.A.c⟩,by simp,rfl,rfl,rfl⟩
 ·intro z hz
  rcases List.mem_append.1 hz with hz | hz
  ·exact (h.ok z hz).ru a2 (by simp;omega)
  ·simp at hz;subst hz;exact hk.ru a2 (by simp;omega)
 ·show (List.map (fun z:Hd×ND=>z.1) (T.F++[_])).Nodup
  rw [List.map_append,List.nodup_append];refine ⟨h.ndf,by simp,fun a ha b hb hh=>?_⟩;obtain ⟨z,hz,rfl⟩:=List.mem_map.1 ha;simp at hb;exact hgn z hz (hh.trans hb)
 ·simp [h.len]
 ·intro j d' y y' hj hd' hy hy'
  have hd'':=hd';rcases get_set hd'' with ⟨hh,_⟩ | ⟨_,hd'⟩
  ·exact absurd hh.symm hj
  ·rcases List.mem_append.1 hy' with hy' | hy'
   ·exact h.sep j d' y y' hj hd' hy hy'
   ·simp at hy'
    subst hy';exact idx_ne' ((h.bw.ars.ar j d' hd').th y hy).2 hfr
 ·have:=sum_set (d':={ T.d with A:={ T.d.A with L:=T.d.A.L++[⟨T.free.idxOf true,T.gens.getD (T.free.idxOf true) 0,b,n.cs,T.d.A.c⟩],c:=T.d.A.c+1 } }) h.hd
  have hc:=h.cnt;have h2:=count_set_false T.free (T.free.idxOf true) q1 q2;simp only [List.length_append,List.length_cons,List.length_nil] at this;simp only [List.length_set];omega
 ·exact List.getElem?_set_ne (fun hh=>hj hh.symm)
 ·have h2:=count_set_false T.free (T.free.idxOf true) q1 q2
  show (T.free.set _ false).count true+1=_
  omega
end
open Go.RowKit
section
variable {w w':World} {q o:Nat} {cs A B C:List Value}
theorem rng_below (h:w.rangeAt q o cs) (hb:Below w.heap.size w w'):w'.rangeAt q o cs:=fun j v hj=>keep hb (h j v hj)
theorem rng_sub (h:w.rangeAt q o (A++(B++C))) {n:Nat} (hn:A.length=n):w.rangeAt q (o+n) B:=fun j v hj=>by
 have:=h (A.length+j) v (by rw [List.getElem?_append_right (by omega),Nat.add_sub_cancel_left,List.getElem?_append_left (List.getElem?_eq_some_iff.1 hj).1];exact hj)
 rw [← hn,Nat.add_assoc]
 exact this
theorem rng_end (h:w.rangeAt q o (A++B)) {n:Nat} (hn:A.length=n):w.rangeAt q (o+n) B:=by
 have:A++B=A++(B++[]):=by simp
 rw [this] at h
 exact rng_sub h hn
theorem rng_cell (h:w.rangeAt q o cs) {i:Nat} {v:Value} (hv:cs[i]?=some v):w.cell? ⟨q,o+i,none⟩=some v:=h i v hv
end
structure LfAt (w:World) (q o:Nat) (f:LF):Prop where
 low:w.cell? ⟨q,o,none⟩=some (.bool true)
 leaf:w.rangeAt q (o+1) (lfc f)
structure InAt (w:World) (q o:Nat) (ic:List Value):Prop where
 low:w.cell? ⟨q,o,none⟩=some (.bool false)
 inn:w.rangeAt q (o+112) ic
section
variable {w w':World} {q o:Nat} {f:LF} {ic:List Value}
theorem LfAt.of (h:w.rangeAt q o (.bool true::(lfc f++zic))):LfAt w q o f :=
 ⟨h 0 _ rfl,rng_sub (A:=[.bool true]) (B:=lfc f) (C:=zic) h rfl⟩
theorem InAt.of (h:w.rangeAt q o (.bool false::(zlc++ic))):InAt w q o ic :=
 ⟨h 0 _ rfl,rng_end (A:=.bool false::zlc) (B:=ic) h (by rw [List.length_cons,zlc_len])⟩
theorem LfAt.below (h:LfAt w q o f) (hb:Below w.heap.size w w'):LfAt w' q o f:=⟨keep hb h.low,rng_below h.leaf hb⟩
theorem InAt.below (h:InAt w q o ic) (hb:Below w.heap.size w w'):InAt w' q o ic:=⟨keep hb h.low,rng_below h.inn hb⟩
theorem LfAt.lt (h:LfAt w q o f):q < w.heap.size:=block_lt_of_cell h.low
theorem InAt.lt (h:InAt w q o ic):q < w.heap.size:=block_lt_of_cell h.low
theorem LfAt.next (h:LfAt w q o f) (hS:f.S.length=15):w.rangeAt q (o+1+109) [.int .i64 f.nx.1,.int .u64 f.nx.2]:=by
 refine rng_end (A:=.int .u64 ((pw f.n f.o:Nat):Int)::(f.S.flatMap slc++[.int .u64 ((f.hi.s:Nat):Int),.int .u8 ((f.hi.c:Nat):Int),.bool f.bnd])) ?_ (by rw [List.length_cons,List.length_append,slcs_len,hS];rfl)
 have:=h.leaf
 unfold lfc at this
 simpa using this
end
set_option maxRecDepth 100000
theorem nd_covers_leaf {w:World} {q o:Nat} {f:LF} (h:LfAt w q o f) (hf:LFOK f) (m:Mk):Calls Tryz.prog 94 #[.pointer (some ⟨q,o,none⟩),mkV m] w fun e w'=>e=.returned (.bool (f.cov m))∧Below w.heap.size w w':=by
 have hbx:=heap_alloc_new w (.cells #[.int .u64 ((m.s:Nat):Int),.int .u8 ((m.c:Nat):Int)] 90)
 have hB:=qh ((Below.refl w.heap.size w).alloc (Nat.le_refl _) (.cells #[.int .u64 ((m.s:Nat):Int),.int .u8 ((m.c:Nat):Int)] 90))
 have h1:=qh (h.below hB.out)
 have hql:=h.lt
 have c0:=h.low
 have hC:=qh fun W=>lfCovers_any f hf m W
 have hl:=lfc_len hf.S
 unfold lfV at hC
 unfold mkV at hC ⊢
 obtain ⟨cs,hcs⟩:∃ cs,cs=lfc f:=⟨_,rfl⟩
 have hr:=h1.out.leaf
 rw [← hcs] at hl hC hr
 replace hcs:=qh hcs
 replace hl:=qh hl
 replace hr:=qh hr
 obtain ⟨W0,hW0⟩:∃ W,W=w.alloc (.cells #[.int .u64 ((m.s:Nat):Int),.int .u8 ((m.c:Nat):Int)] 90):=⟨_,rfl⟩
 rw [← hW0] at hbx hB h1 hr
 replace hW0:=qh hW0
 obtain ⟨xb,hxb⟩:∃ b,b=w.heap.size:=⟨_,rfl⟩
 rw [← hxb] at hbx
 replace hxb:=qh hxb
 clear h
 go_enter Tryz.func94,Tryz.ntmps94
 go_upto_region 2 with fail
 rw [← hW0.out,← hxb.out]
 refine wp_region_held_drew (S:=fun W'=>W'.rangeAt q (o+1) cs∧W'.heap[xb]?=some (.cells #[.int .u64 ((m.s:Nat):Int),.int .u8 ((m.c:Nat):Int)] 90)) rfl ⟨hr.out,hbx⟩ (fun hHeld=>?_)
 refine tkL 0 ?_
 refine tkL 1 ?_
 refine tkL 2 ?_
 refine ykL 3 ?_ (hy:=yieldsIf_load_mid (by rfl) 95 (.tmp 11) rfl q (o+1) (by rfl) cs _ (fun w hw=>hw.1) Tryz.underlying95 rfl (by rw [hl.out];kernel_rfl))
 refine ykL 4 ?_ (hy:=yieldsIf_load_mid (by rfl) 90 (.tmp 3) rfl xb (0) (by rfl) [.int .u64 ((m.s:Nat):Int),.int .u8 ((m.c:Nat):Int)] _ (fun w hw=>range_of_heap hw.2) Tryz.underlying90 rfl (by kernel_rfl))
 refine rdL 5 ?_
 intro K hK
 go_simp
 go_at_call 111
 refine (hC.out _).mono ?_
 rintro z W3 ⟨rfl,hb⟩
 have hfin:=qh (hB.out.trans (((Below.refl W0.heap.size W0).drew.trans hb).mono hB.out.size))
 have hS1:=And.intro (rng_below hHeld.1 hb) (Below.heap' hb hHeld.2)
 clear hb
 go_wp2_with fail
 refine hK.out _ _ hS1 (fun _=>?_)
 clear hHeld hK K
 have hHeld:=hS1
 clear hS1
 try simp only [Act.put,zs1,zs2,zs3]
 refine tkL 6 ?_
 refine wpAnyH_done (by kernel_rfl) ?_ _
 try simp only [Exit.then]
 go_wp2_with fail
 go_ret
 exact ⟨rfl,hfin.out⟩
theorem nd_covers_inn {w:World} {q o:Nat} {ic:List Value} {B:List Nat} {b:BN Sl} (h:InAt w q o ic) (hI:InC w B ic (down b)) (m:Mk) (hm:MkOK m):Calls Tryz.prog 94 #[.pointer (some ⟨q,o,none⟩),mkV m] w fun e w'=>e=.returned (.bool (b.covers (mT m)))∧Below w.heap.size w w':=by
 have hbx:=heap_alloc_new w (.cells #[.int .u64 ((m.s:Nat):Int),.int .u8 ((m.c:Nat):Int)] 90)
 have hB:=qh ((Below.refl w.heap.size w).alloc (Nat.le_refl _) (.cells #[.int .u64 ((m.s:Nat):Int),.int .u8 ((m.c:Nat):Int)] 90))
 have h1:=qh (h.below hB.out)
 have hI1:=qh (hI.below hB.out)
 have hql:=h.lt
 have c0:=h.low
 have hT:=qh fun W=>mkText_any m hm W
 have hl:=hI.len
 have hcv:(down b).covers (mT m)=b.covers (mT m):=rfl
 unfold mkV at hT ⊢
 have hr:=h1.out.inn
 replace hl:=qh hl
 replace hr:=qh hr
 obtain ⟨W0,hW0⟩:∃ W,W=w.alloc (.cells #[.int .u64 ((m.s:Nat):Int),.int .u8 ((m.c:Nat):Int)] 90):=⟨_,rfl⟩
 rw [← hW0] at hbx hB h1 hr hI1
 replace hW0:=qh hW0
 obtain ⟨xb,hxb⟩:∃ b,b=w.heap.size:=⟨_,rfl⟩
 rw [← hxb] at hbx
 replace hxb:=qh hxb
 have hC:=qh fun W (hW:Below W0.heap.size W0 W)=>(hI1.out.below hW).covers (key:=mT m)
 rw [hcv] at hC
 clear hcv
 obtain ⟨T,hT0⟩:∃ T,T=mT m:=⟨_,rfl⟩
 rw [← hT0] at hC hT ⊢
 replace hT0:=qh hT0
 obtain ⟨r,hr0⟩:∃ r,r=b.covers T:=⟨_,rfl⟩
 rw [← hr0] at hC ⊢
 replace hr0:=qh hr0
 clear h hI
 go_enter Tryz.func94,Tryz.ntmps94
 go_upto_region 3 with fail
 rw [← hW0.out,← hxb.out]
 refine wp_region_held_drew (S:=fun W'=>W'.rangeAt q (o+112) ic∧W'.heap[xb]?=some (.cells #[.int .u64 ((m.s:Nat):Int),.int .u8 ((m.c:Nat):Int)] 90)) rfl ⟨hr.out,hbx⟩ (fun hHeld=>?_)
 refine tkL 0 ?_
 refine tkL 1 ?_
 refine tkL 2 ?_
 refine ykL 3 ?_ (hy:=yieldsIf_load_mid (by rfl) 98 (.tmp 17) rfl q (o+112) (by rfl) ic _ (fun w hw=>hw.1) Tryz.underlying98 rfl (by rw [hl.out];kernel_rfl))
 refine ykL 4 ?_ (hy:=yieldsIf_load_mid (by rfl) 90 (.tmp 3) rfl xb (0) (by rfl) [.int .u64 ((m.s:Nat):Int),.int .u8 ((m.c:Nat):Int)] _ (fun w hw=>range_of_heap hw.2) Tryz.underlying90 rfl (by kernel_rfl))
 refine rdL 5 ?_
 intro K hK
 go_simp
 go_at_call 97
 refine (hT.out _).mono ?_
 rintro z W3 ⟨rfl,hb⟩
 have hb3:=qh ((Below.refl W0.heap.size W0).drew.trans hb)
 have hS1:=And.intro (rng_below hHeld.1 hb) (Below.heap' hb hHeld.2)
 clear hb
 go_wp2_with fail
 refine hK.out _ _ hS1 (fun _=>?_)
 clear hHeld hK K
 have hHeld:=hS1
 clear hS1
 try simp only [Act.put,zs1,zs2,zs3]
 refine rdL 6 ?_
 intro K hK
 go_simp
 go_at_call 126
 refine (hC.out _ hb3.out).mono ?_
 rintro z W4 ⟨rfl,hb⟩
 have hfin:=qh (hB.out.trans ((hb3.out.trans (hb.mono hb3.out.size)).mono hB.out.size))
 have hS1:=And.intro (rng_below hHeld.1 hb) (Below.heap' hb hHeld.2)
 clear hb
 go_wp2_with fail
 refine hK.out _ _ hS1 (fun _=>?_)
 clear hHeld hK K
 have hHeld:=hS1
 clear hS1
 try simp only [Act.put,zs1,zs2,zs3]
 refine tkL 7 ?_
 refine wpAnyH_done (by kernel_rfl) ?_ _
 try simp only [Exit.then]
 go_wp2_with fail
 go_ret
 exact ⟨rfl,hfin.out⟩
theorem nd_next_leaf {w:World} {q o:Nat} {f:LF} (h:LfAt w q o f) (hf:LFOK f):Calls Tryz.prog 95 #[.pointer (some ⟨q,o,none⟩)] w fun e w'=>e=.returned (hV f.nx)∧Below w.heap.size w w':=by
 have hB:=qh ((Below.refl w.heap.size w).alloc (Nat.le_refl _) (.cells #[.int .i64 0,.int .u64 0] 71))
 have hr:=qh ((h.below hB.out).next hf.S)
 have hql:=h.lt
 have c0:=h.low
 clear h hf
 go_enter Tryz.func95,Tryz.ntmps95
 go_wp2_with (refine wpList_load_mid rfl 71 (.tmp 10) rfl q (o+1+109) (by rfl) _ _ hr.out Tryz.underlying71 rfl (by kernel_rfl) ?_)
 refine bodyPost_ret (v:=hV f.nx) (by simp [results,Tryz.results95,go_sem]) rfl ⟨rfl,?_⟩
 exact (Below.refl w.heap.size w).alloc (Nat.le_refl _) _
theorem nd_next_inn {w:World} {q o:Nat} {ic:List Value} {B:List Nat} {b:BN Sl} (h:InAt w q o ic) (hI:InC w B ic (down b)):Calls Tryz.prog 95 #[.pointer (some ⟨q,o,none⟩)] w fun e w'=>e=.returned (hV b.next)∧Below w.heap.size w w':=by
 have hB:=qh ((Below.refl w.heap.size w).alloc (Nat.le_refl _) (.cells #[.int .i64 0,.int .u64 0] 71))
 have hql:=h.lt
 have c0:=h.low
 obtain ⟨ka,kc,va,vc,ha,hc,rfl,-,-⟩:=hI.cells
 have hr:Hid ((w.alloc (.cells #[.int .i64 0,.int .u64 0] 71)).rangeAt q (o+112+6) [.int .i64 b.next.1,.int .u64 b.next.2]):=qh (rng_end (A:=[_,_,_,_,_,_]) (h.below hB.out).inn rfl)
 clear h hI
 go_enter Tryz.func95,Tryz.ntmps95
 go_wp2_with (refine wpList_load_mid rfl 71 (.tmp 15) rfl q (o+112+6) (by rfl) _ _ hr.out Tryz.underlying71 rfl (by kernel_rfl) ?_)
 refine bodyPost_ret (v:=hV b.next) (by simp [results,Tryz.results95,go_sem]) rfl ⟨rfl,?_⟩
 exact (Below.refl w.heap.size w).alloc (Nat.le_refl _) _
theorem nd_full_leaf {w:World} {q o:Nat} {f:LF} (h:LfAt w q o f) (hf:LFOK f):Calls Tryz.prog 114 #[.pointer (some ⟨q,o,none⟩)] w fun e w'=>e=.returned (.bool (decide (6 < f.n)))∧Below w.heap.size w w':=by
 have hl:=lfc_len hf.S
 have hC:=qh fun W=>lfFull_any f hf W
 have hr:=qh h.leaf
 have hql:=h.lt
 have c0:=h.low
 unfold lfV at hC
 obtain ⟨cs,hcs⟩:∃ cs,cs=lfc f:=⟨_,rfl⟩
 rw [← hcs] at hl hC hr
 replace hcs:=qh hcs
 replace hl:=qh hl
 obtain ⟨r,hr0⟩:∃ r,r=decide (6 < f.n):=⟨_,rfl⟩
 rw [← hr0] at hC ⊢
 replace hr0:=qh hr0
 clear h hf
 go_enter Tryz.func114,Tryz.ntmps114
 go_wp2_with (refine wpList_load_mid rfl 95 (.tmp 9) rfl q (o+1) (by rfl) cs _ hr.out Tryz.underlying95 rfl (by rw [hl.out];kernel_rfl) ?_)
 refine (hC.out _).mono ?_
 rintro e w1 ⟨rfl,hb⟩
 replace hb:=qh hb
 go_wp2_with fail
 go_ret
 exact ⟨rfl,hb.out⟩
theorem nd_full_inn {w:World} {q o:Nat} {ic:List Value} {B:List Nat} {b:BN Sl} (h:InAt w q o ic) (hI:InC w B ic (down b)):Calls Tryz.prog 114 #[.pointer (some ⟨q,o,none⟩)] w fun e w'=>e=.returned (.bool (decide (4 < b.keys.length)))∧Below w.heap.size w w':=by
 have hC:=qh hI.full
 have hr:=qh h.inn
 have hql:=h.lt
 have c0:=h.low
 have hl:=qh hI.len
 rw [show (down b).keys=b.keys from rfl] at hC
 obtain ⟨r,hr0⟩:∃ r,r=decide (4 < b.keys.length):=⟨_,rfl⟩
 rw [← hr0] at hC ⊢
 replace hr0:=qh hr0
 clear h hI
 go_enter Tryz.func114,Tryz.ntmps114
 go_wp2_with (refine wpList_load_mid rfl 98 (.tmp 14) rfl q (o+112) (by rfl) ic _ hr.out Tryz.underlying98 rfl (by rw [hl.out];kernel_rfl) ?_)
 refine hC.out.mono ?_
 rintro e w1 ⟨rfl,hb⟩
 replace hb:=qh hb
 go_wp2_with fail
 go_ret
 exact ⟨rfl,hb.out⟩
theorem nd_tight_leaf {w:World} {q o:Nat} {f:LF} (h:LfAt w q o f) (hf:LFOK f):Calls Tryz.prog 113 #[.pointer (some ⟨q,o,none⟩)] w fun e w'=>e=.returned (.bool (decide (6≤f.n)))∧Below w.heap.size w w':=by
 have hl:=lfc_len hf.S
 have hC:=qh fun W=>lfLen_any f hf W
 have hr:=qh h.leaf
 have hql:=h.lt
 have c0:=h.low
 unfold lfV at hC
 obtain ⟨cs,hcs⟩:∃ cs,cs=lfc f:=⟨_,rfl⟩
 rw [← hcs] at hl hC hr
 replace hcs:=qh hcs
 replace hl:=qh hl
 clear h hf
 go_enter Tryz.func113,Tryz.ntmps113
 go_wp2_with (refine wpList_load_mid rfl 95 (.tmp 9) rfl q (o+1) (by rfl) cs _ hr.out Tryz.underlying95 rfl (by rw [hl.out];kernel_rfl) ?_)
 refine (hC.out _).mono ?_
 rintro e w1 ⟨rfl,hb⟩
 replace hb:=qh hb
 go_wp2_with fail
 go_ret
 exact ⟨by simp;omega,hb.out⟩
theorem nd_tight_inn {w:World} {q o:Nat} {ic:List Value} {B:List Nat} {b:BN Sl} (h:InAt w q o ic) (hI:InC w B ic (down b)):Calls Tryz.prog 113 #[.pointer (some ⟨q,o,none⟩)] w fun e w'=>e=.returned (.bool (decide (4≤b.keys.length)))∧Below w.heap.size w w':=by
 have hql:=h.lt
 have c0:=h.low
 obtain ⟨ka,kc,va,vc,ha,hc,rfl,-,-⟩:=hI.cells
 have c1:w.cell? ⟨q,o+112+1,none⟩=some (.slice ka b.keys.length kc):=rng_cell h.inn rfl
 clear h hI
 obtain ⟨n,hn⟩:∃ n,n=b.keys.length:=⟨_,rfl⟩
 rw [← hn] at c1 ⊢
 replace hn:=qh hn
 go_enter Tryz.func113,Tryz.ntmps113
 go_wp2_with fail
 go_ret
 exact ⟨by simp;omega,Below.refl _ _⟩
open Go.Lib
section
variable {β:Type}
theorem lows_mem:∀ {S:Lev β} {a:Str} {x:Hd×Str},x∈lows a S→∃ A n B,S=A++(x.1,n)::B∧endOf a A=x.2
 | [],_,_,h=>by cases h
 | (h0,n)::S,a,x,h=>by
  rcases List.mem_cons.1 h with rfl | h
  ·exact ⟨[],n,S,rfl,rfl⟩
  ·obtain ⟨A,n',B,e,e'⟩:=lows_mem h
   exact ⟨(h0,n)::A,n',B,by rw [e];rfl,e'⟩
theorem seg_end:∀ {A:Lev β} {lo m:Str} {nxt:Hd},Seg lo A nxt (some m)→endOf lo A=m
 | [],lo,m,_,h=>by simp only [Seg,Option.some.injEq] at h;exact h.symm
 | (h0,n)::A,lo,m,nxt,⟨a,_,c⟩=>by
  by_cases hb:n.bnd=true
  ·rw [if_pos hb] at c
   exact seg_end (A:=A) (lo:=n.high) (nxt:=nxt) c
  ·rw [if_neg hb] at c
   cases c.2
def Has (Ls:List (Lev β)) (j:Nat) (h:Hd) (lo:Str):Prop:=∃ S,Ls[j]?=some S∧(h,lo)∈lows s0 S
theorem Evo.has {Ls Ls':List (Lev β)} (he:Evo Ls Ls') {j:Nat} {h:Hd} {lo:Str} (hh:Has Ls j h lo):Has Ls' j h lo:=by
 obtain ⟨S,h1,h2⟩:=hh
 obtain ⟨S',h3,h4⟩:=he j S h1
 exact ⟨S',h3,h4 _ h2⟩
structure NodeIn (Ls:List (Lev β)) (j:Nat) (h:Hd) (lo:Str) (n:BN β) (A B:Lev β):Prop where
 lev:Ls[j]?=some (A++(h,n)::B)
 ok:NodeOK lo n
 lf:n.leaf=decide (j=0)
 left:Seg s0 A h (some lo)
 right:Seg lo ((h,n)::B) (0,0) none
variable {Ls:List (Lev β)} {j:Nat} {h:Hd} {lo key:Str} {n:BN β} {A B:Lev β} {after:Bool}
theorem Tower.inOf (ht:Tower Ls) (hl:Ls[j]?=some (A++(h,n)::B)):∃ lo,NodeIn Ls j h lo n A B:=by
 have hok:=ht.ok _ _ hl
 obtain ⟨m,h1,h2⟩:=seg_append.1 hok.seg
 exact ⟨m,hl,h2.1,hok.lf (h,n) (by simp),h1,h2⟩
theorem Tower.nodeIn (ht:Tower Ls) (hh:Has Ls j h lo):∃ n A B,NodeIn Ls j h lo n A B:=by
 obtain ⟨S,h1,h2⟩:=hh
 obtain ⟨A,n,B,e,e'⟩:=lows_mem h2
 subst e
 obtain ⟨lo',hi⟩:=ht.inOf h1
 have:=seg_end hi.left
 simp only at e'
 rw [e'] at this
 subst this
 exact ⟨n,A,B,hi⟩
theorem NodeIn.has (hi:NodeIn Ls j h lo n A B):Has Ls j h lo:=by
 refine ⟨_,hi.lev,?_⟩
 rw [lows_append,seg_end hi.left]
 exact List.mem_append.2 (.inr (List.mem_cons.2 (.inl rfl)))
theorem NodeIn.memF (hi:NodeIn Ls j h lo n A B):(h,n)∈Ls.flatten:=mem_flat hi.lev (by simp)
theorem NodeIn.atK (hi:NodeIn Ls j h lo n A B) (hk:sle lo key=true) (hc:n.covers key=true):atK (A++(h,n)::B) key=some (h,n):=by
 refine atK_mk hc fun y hy=>?_
 obtain ⟨x,h1,h2⟩:=(seg_his hi.left).2 y hy
 rw [covers_hi,h1]
 exact sle_iff.1 (sle_trans h2 hk)
theorem NodeIn.nextB (ht:Tower Ls) (hi:NodeIn Ls j h lo n A B) (hb:n.bnd=true):∃ (y:Hd×BN β) (B':Lev β),B=y::B'∧n.next=y.1∧slt lo n.high=true∧NodeIn Ls j y.1 n.high y.2 (A++[(h,n)]) B':=by
 obtain ⟨a,b,c⟩:=hi.right
 rw [if_pos hb] at c
 cases B with
 | nil=>simp [Seg] at c
 | cons y B' =>
  obtain ⟨y1,y2⟩:=y;have hl:Ls[j]?=some ((A++[(h,n)])++(y1,y2)::B'):=by rw [hi.lev];simp
  obtain ⟨lo',hi'⟩:=ht.inOf hl;have h1:=seg_end hi'.left
  have h2:∀ (A:Lev β) (a:Str),endOf a (A++[(h,n)])=n.high:=fun A=>by
   induction A with
   | nil=>intro a;rfl
   | cons z A ih=>intro a;exact ih _
  rw [h2] at h1;rw [← h1] at hi';exact ⟨(y1,y2),B',rfl,b,hi.ok.room hb,hi'⟩
theorem covers_false (hc:n.covers key=false):n.bnd=true∧sle n.high key=true:=by
 unfold BN.covers at hc
 cases hb:n.bnd
 ·rw [hb] at hc;simp at hc
 ·rw [hb] at hc
  simp only [Bool.not_true,Bool.false_or] at hc;exact ⟨rfl,sle_iff.2 hc⟩
theorem NodeIn.kid (ht : Tower Ls) {i : Nat} (hi : NodeIn Ls (i + 1) h lo n A B) (hk : sle lo key = true) (hc : n.covers key = true) :
    ∃ z lo' m A' B',n.kids[cutE key n.keys]?=some z∧NodeIn Ls i z lo' m A' B'∧sle lo' key=true∧m.covers key=true:=by
 have hlt:=(List.getElem?_eq_some_iff.1 hi.lev).1
 obtain ⟨S,y,hS,hy,hz⟩:=ht.down hi.lev (hi.atK hk hc)
 obtain ⟨A2,B2,e,hyc,hA⟩:=atK_split hy
 subst e
 obtain ⟨y1,y2⟩:=y
 obtain ⟨lo',hi'⟩:=ht.inOf hS
 exact ⟨y1,lo',y2,A2,B2,hz,hi',seg_reach hi'.left hA (sle_s0 key),hyc⟩
def abv (key:Str) (after:Bool) (x:Str):Bool:=if after then slt key x else sle key x
theorem cutE_lt {k:Str}:∀ {l:List Str} {i:Nat} {x:Str},i < cutE k l→l[i]?=some x→sle x k=true
 | [],i,x,h,_=>by simp [cutE] at h
 | y::l,i,x,h,hx=>by
  rw [cutE_cons] at h;by_cases hy:sle y k=true
  ·rw [if_pos hy] at h
   cases i with
   | zero=>simp at hx;rw [← hx];exact hy
   | succ i=>exact cutE_lt (l:=l) (i:=i) (by omega) (by simpa using hx)
  ·rw [if_neg hy] at h;omega
theorem cutE_at {k:Str}:∀ {l:List Str} {x:Str},l[cutE k l]?=some x→sle x k=false
 | [],x,h=>by simp at h
 | y::l,x,h=>by
  rw [cutE_cons] at h;by_cases hy:sle y k=true
  ·rw [if_pos hy] at h
   exact cutE_at (l:=l) (by simpa using h)
  ·rw [if_neg hy] at h
   simp at h;rw [← h];simpa using hy
theorem place_lt {K:List Str} {i:Nat} {x:Str} (hx:K[i]?=some x) (ha:abv key after x=true):place key after K≤i:=by
 rcases Nat.lt_or_ge i (place key after K) with h1 | h1
 ·unfold place at h1
  unfold abv at ha
  cases after
  ·simp only [Bool.false_eq_true,if_false] at h1 ha
   rw [sle_iff,cut_lt h1 hx] at ha
   cases ha
  ·simp only [if_true] at h1 ha
   have:=cutE_lt h1 hx;rw [sle_iff,ha] at this
   cases this
 ·exact h1
theorem place_at {K:List Str} {x:Str} (hx:K[place key after K]?=some x):abv key after x=true:=by
 unfold place at hx
 unfold abv
 cases after
 ·simp only [Bool.false_eq_true,if_false] at hx ⊢
  exact sle_iff.2 (cut_at hx)
 ·simp only [if_true] at hx ⊢
  have:=cutE_at hx;unfold sle at this;simpa using this
theorem abv_sle {x:Str} (h:abv key after x=true):sle key x=true:=by
 unfold abv at h
 cases after
 ·exact h
 ·exact slt_sle h
theorem place_le {K:List Str}:place key after K≤K.length:=by
 unfold place
 split
 ·exact cutE_le _ _
 ·exact cut_le _ _
theorem NodeIn.get (ht:Tower Ls) (hi:NodeIn Ls 0 h lo n A B) (hk:sle lo key=true) (hc:n.covers key=true):cget (content Ls) key=if hasK key n.keys then n.vals[cut key n.keys]? else none :=
 (ht.get hi.lev (hi.atK hk hc)).2.2
theorem place_none (hi:NodeIn Ls 0 h lo n A B) (ht:Tower Ls) {x:Str} (ha:abv key after x=true) (hl:sle lo x=true) (hc:n.covers x=true) (hp:∀ k,n.keys[place key after n.keys]?=some k→slt x k=true):cget (content Ls) x=none:=by
 rw [hi.get ht hl hc]
 cases hk:hasK x n.keys
 ·rfl
 ·have h1:=hasK_iff.1 hk
  have h2:=place_lt h1 ha;have h3:place key after n.keys < n.keys.length:=by have:=(List.getElem?_eq_some_iff.1 h1).1;omega
  have h4:=hp _ (List.getElem?_eq_getElem h3);rcases Nat.lt_or_ge (place key after n.keys) (cut x n.keys) with h5 | h5
  ·rw [slt_asymm (rise_lt hi.ok.rise h5 (List.getElem?_eq_getElem h3) h1)] at h4
   cases h4
  ·have h6:place key after n.keys=cut x n.keys:=by omega
   rw [(List.getElem?_eq_some_iff.1 (show n.keys[place key after n.keys]?=some x by rw [h6];exact h1)).2,slt_irrefl] at h4
   cases h4
theorem sane_level (h3:Ls.length≤1000) (h2:nodes Ls≤20000) (hi:NodeIn Ls j h lo n A B):j < 1000∧B.length≤20000:=by
 have h1:=(List.getElem?_eq_some_iff.1 hi.lev).1
 obtain ⟨X,Y,x1,_⟩:=lev_set (S':=[]) hi.lev
 unfold nodes at h2
 rw [x1] at h2
 simp only [List.length_append,List.length_cons] at h2
 exact ⟨by omega,by omega⟩
end
structure SaneY (F:List Ly):Prop where
 ok:MOK F
 slim:∀ l,l∈F→Slim l.Ls
 len:∀ l,l∈F→l.Ls.length≤1000
 nod:∀ l,l∈F→nodes l.Ls≤20000
 top:∀ l,l∈F→∃ n,l.Ls[l.Ls.length - 1]?=some [(l.r,n)]
 nd:((F.flatMap fun l=>l.Ls.flatten).map (·.1)).Nodup
 pre:∀ l,l∈F→l.pre.length≤1000000
 rst:∀ l,l∈F→∀ x,x∈content l.Ls→(bl x.2.rest).length≤1000000
def EvoY (F F':List Ly):Prop:=∀ l,l∈F→∃ l',l'∈F'∧l'.pre=l.pre∧Evo l.Ls l'.Ls
theorem EvoY.refl (F:List Ly):EvoY F F:=fun l hl=>⟨l,hl,rfl,Evo.refl _⟩
theorem EvoY.trans {F1 F2 F3:List Ly} (h:EvoY F1 F2) (k:EvoY F2 F3):EvoY F1 F3:=fun l hl=>by
 obtain ⟨l',h1,h2,h3⟩:=h l hl
 obtain ⟨l2,k1,k2,k3⟩:=k l' h1
 exact ⟨l2,k1,k2.trans h2,h3.trans k3⟩
structure Vs (σ:Type) where
 Y:σ→List Ly
 gone:σ→Bool
 wk:σ→Nat
 cnt:σ→Nat
 free:Bool
 Ab:σ→Str→Prop
 lb:σ→σ→Prop
structure To {σ:Type} (V:Vs σ) (s s':σ):Prop where
 le:V.wk s'≤V.wk s
 ab:∀ k,V.Ab s k→V.Ab s' k
 evo:V.gone s'=false→V.gone s=false∧EvoY (V.Y s) (V.Y s')
 eq:V.wk s'=V.wk s→V.Y s'=V.Y s
structure VsOK {σ:Type} (V:Vs σ):Prop where
 sane:∀ s,V.gone s=false→SaneY (V.Y s)
 now:∀ s,V.gone s=false→∃ C,MCt (V.Y s) C∧∀ k,M.cget C k=none→V.Ab s k
 lbl:∀ a b c,To V a b→V.lb b c→V.lb a c
 lbr:∀ a b c,V.lb a b→To V b c→V.lb a c
section
variable {σ:Type} {V:Vs σ} {s s' s2:σ} {j:Nat} {h:Hd} {lo key:Str} {n:BN Sl} {A B:Lev Sl} {after:Bool} {pre:Byt} {m:Mk} {k:Str} {i:Nat} {l:Ly} {F:List Ly}
theorem To.refl (V:Vs σ) (s:σ):To V s s:=⟨Nat.le_refl _,fun _ h=>h,fun h=>⟨h,EvoY.refl _⟩,fun _=>rfl⟩
theorem To.trans (a:To V s s') (b:To V s' s2):To V s s2 :=
 ⟨Nat.le_trans b.le a.le,fun k h=>b.ab k (a.ab k h),fun h=>by
  obtain ⟨b1,b2⟩:=b.evo h;obtain ⟨a1,a2⟩:=a.evo b1
  exact ⟨a1,a2.trans b2⟩,fun e=>by
  have h1:=a.le;have h2:=b.le
  rw [b.eq (by omega),a.eq (by omega)]⟩
structure Pos (V:Vs σ) (s:σ) (pre:Byt) (j:Nat) (h:Hd) (lo:Str) (n:BN Sl) (A B:Lev Sl):Prop where
 ex:∃ l,l∈V.Y s∧l.pre=pre∧NodeIn l.Ls j h lo n A B
def msr (V:Vs σ) (s:σ) (j:Nat) (B:Lev Sl):Nat:=V.wk s*100000000+j*30000+B.length+1
theorem Pos.mem (hp:Pos V s pre j h lo n A B):(h,n)∈(V.Y s).flatMap fun l=>l.Ls.flatten:=by
 obtain ⟨l,h1,_,h3⟩:=hp.ex
 exact List.mem_flatMap.2 ⟨l,h1,h3.memF⟩
theorem Pos.is (hp:Pos V s pre j h lo n A B) (hs:SaneY (V.Y s)) {n':BN Sl} (hm:(h,n')∈(V.Y s).flatMap fun l=>l.Ls.flatten):n'=n:=by
 have h1:=hp.mem
 have h2:=hs.nd
 generalize ((V.Y s).flatMap fun l=>l.Ls.flatten)=L at h1 h2 hm
 obtain ⟨a,ha⟩:=List.mem_iff_getElem?.1 h1
 obtain ⟨b,hb⟩:=List.mem_iff_getElem?.1 hm
 have e1:(L.map (·.1))[a]?=some h:=by rw [List.getElem?_map,ha];rfl
 have e2:(L.map (·.1))[b]?=some h:=by rw [List.getElem?_map,hb];rfl
 have:=(List.getElem?_inj (List.getElem?_eq_some_iff.1 e1).1 h2).1 (e1.trans e2.symm)
 subst this
 rw [ha] at hb
 injection hb with hb
 injection hb with _ hb
 exact hb.symm
theorem Pos.start (hs:SaneY (V.Y s)) (hl:l∈V.Y s):∃ j n,Pos V s l.pre j l.r s0 n [] []:=by
 obtain ⟨n,ht⟩:=hs.top l hl
 obtain ⟨lo,hi⟩:=(hs.ok.tow l hl).inOf (A:=[]) (B:=[]) ht
 have e':lo=s0:=(seg_end hi.left).symm
 subst e'
 exact ⟨_,n,⟨l,hl,rfl,hi⟩⟩
theorem Pos.look (hp : Pos V s pre j h lo n A B) (ht : To V s s') (hg : V.gone s' = false) (hs' : SaneY (V.Y s')) :
    ∃ n' A' B',Pos V s' pre j h lo n' A' B'∧msr V s' j B'≤msr V s j B:=by
 obtain ⟨l,h1,h2,h3⟩:=hp.ex
 by_cases he:V.wk s'=V.wk s
 ·refine ⟨n,A,B,⟨l,by rw [ht.eq he];exact h1,h2,h3⟩,?_⟩
  unfold msr;omega
 ·obtain ⟨l',q1,q2,q3⟩:=(ht.evo hg).2 l h1
  obtain ⟨n',A',B',hi'⟩:=(hs'.ok.tow l' q1).nodeIn (q3.has h3.has);refine ⟨n',A',B',⟨l',q1,q2.trans h2,hi'⟩,?_⟩;obtain ⟨l1,l2⟩:=sane_level (hs'.len l' q1) (hs'.nod l' q1) hi';have:=ht.le;unfold msr;omega
theorem Pos.right (hp:Pos V s pre j h lo n A B) (hs:SaneY (V.Y s)) (hc:n.covers key=false):sle n.high key=true∧n.bnd=true∧∃ y A' B',n.next=y∧∃ n',Pos V s pre j y n.high n' A' B'∧msr V s j B' < msr V s j B:=by
 obtain ⟨l,h1,h2,h3⟩:=hp.ex
 obtain ⟨c1,c2⟩:=covers_false hc
 obtain ⟨y,B',e,e3,e4,e5⟩:=h3.nextB (hs.ok.tow l h1) c1
 refine ⟨c2,c1,y.1,_,B',e3,y.2,⟨l,h1,h2,e5⟩,?_⟩
 subst e
 unfold msr
 simp only [List.length_cons]
 omega
theorem Pos.kid {i : Nat} (hp : Pos V s pre (i + 1) h lo n A B) (hs : SaneY (V.Y s)) (hk : sle lo key = true) (hc : n.covers key = true) :
    ∃ z lo' m A' B',n.kids[cutE key n.keys]?=some z∧Pos V s pre i z lo' m A' B'∧sle lo' key=true∧msr V s i B' < msr V s (i+1) B:=by
 obtain ⟨l,h1,h2,h3⟩:=hp.ex
 obtain ⟨z,lo',m,A',B',q1,q2,q3,_⟩:=h3.kid (hs.ok.tow l h1) hk hc
 refine ⟨z,lo',m,A',B',q1,⟨l,h1,h2,q2⟩,q3,?_⟩
 have hl:=sane_level (hs.len l h1) (hs.nod l h1) q2
 unfold msr
 omega
theorem Pos.ok (hp:Pos V s pre j h lo n A B):NodeOK lo n∧n.leaf=decide (j=0):=by
 obtain ⟨l,_,_,h3⟩:=hp.ex
 exact ⟨h3.ok,h3.lf⟩
def AbL (V:Vs σ) (s:σ) (pre:Byt) (x:Str):Prop:=∀ k i,pre=(bl k).take (8*i)→(i=0∨8*i < (bl k).length)→mT (mkAt k i)=x→V.Ab s k
theorem AbL.onto (h:AbL V s pre key) (ht:To V s s'):AbL V s' pre key:=fun k i a b c=>ht.ab k (h k i a b c)
theorem AbL.now (hV:VsOK V) (hg:V.gone s=false) (hl:l∈V.Y s) (hn:M.cget (content l.Ls) key=none):AbL V s l.pre key:=fun k i a b c=>by
 obtain ⟨C,hC,hab⟩:=hV.now s hg
 exact hab k (hC.none (hV.sane s hg).ok ⟨hl,a,b⟩ (by rw [c];exact hn))
structure NxP (V:Vs σ) (pre:Byt) (key:Str) (after:Bool) (s:σ) (h:Hd) (lo:Str) (n:BN Sl) (A B:Lev Sl):Prop where
 at':Pos V s pre 0 h lo n A B
 gap:∀ x,abv key after x=true→slt x lo=true→AbL V s pre x
structure NxOK (V:Vs σ) (pre:Byt) (key:Str) (after:Bool) (s:σ) (o:Option Sl):Prop where
 is:∀ p,o=some p→abv key after (mT p.m)=true∧∃ l,l∈V.Y s∧l.pre=pre∧M.cget (content l.Ls) (mT p.m)=some p
 gap:∀ x,abv key after x=true→(∀ p,o=some p→slt x (mT p.m)=true)→AbL V s pre x
theorem NxP.start (hp:Pos V s pre 0 h lo n A B) (hl:sle lo key=true):NxP V pre key after s h lo n A B :=
 ⟨hp,fun x h1 h2=>by
  have:=sle_slt (sle_trans hl (abv_sle h1)) h2;rw [slt_irrefl] at this
  cases this⟩
theorem NxP.found (hV:VsOK V) (hg:V.gone s=false) (hP:NxP V pre key after s h lo n A B) {k:Str} {v:Sl} (hk:n.keys[place key after n.keys]?=some k) (hv:n.vals[place key after n.keys]?=some v) (he:k=mT v.m):NxOK V pre key after s (some v):=by
 have hs:=hV.sane s hg
 obtain ⟨l,h1,h2,h3⟩:=hP.at'.ex
 have ht:=hs.ok.tow l h1
 have hmem:k∈n.keys:=List.mem_of_getElem? hk
 have hlo:=h3.ok.low k hmem
 have hco:=h3.ok.cov k hmem
 have hab:=place_at (after:=after) hk
 refine ⟨fun p hp=>?_,fun x a1 a2=>?_⟩
 ·injection hp with hp
  subst hp;rw [← he];refine ⟨hab,l,h1,h2,?_⟩;rw [h3.get ht hlo hco];have hh:hasK k n.keys=true:=(hasK_mem h3.ok.rise).2 hmem
  have hcut:cut k n.keys=place key after n.keys:=by
   have g1:=hasK_iff.1 hh;rcases Nat.lt_trichotomy (cut k n.keys) (place key after n.keys) with g | g | g
   ·have:=rise_lt h3.ok.rise g g1 hk
    rw [slt_irrefl] at this;cases this
   ·exact g
   ·have:=rise_lt h3.ok.rise g hk g1
    rw [slt_irrefl] at this;cases this
  rw [if_pos hh,hcut,hv]
 ·have h5:=a2 _ rfl
  rw [← he] at h5
  cases h4:slt x lo
  ·rw [← h2]
   refine AbL.now hV hg h1 (place_none h3 ht a1 (sle_iff.2 h4) ?_ (fun k' hk'=>?_))
   ·rw [covers_hi] at hco ⊢
    cases hq:n.hi with
    | none=>rfl
    | some z =>
     rw [hq] at hco;exact slt_trans h5 hco
   ·rw [hk] at hk'
    injection hk' with hk';rw [← hk'];exact h5
  ·exact hP.gap x a1 h4
theorem NxP.none (hV:VsOK V) (hg:V.gone s=false) (hP:NxP V pre key after s h lo n A B) (hp:place key after n.keys=n.keys.length) (hb:n.bnd=false):NxOK V pre key after s none:=by
 have hs:=hV.sane s hg
 obtain ⟨l,h1,h2,h3⟩:=hP.at'.ex
 refine ⟨fun p hp=>(by cases hp),fun x a1 _=>?_⟩
 cases h4:slt x lo
 ·rw [← h2]
  refine AbL.now hV hg h1 (place_none h3 (hs.ok.tow l h1) a1 (sle_iff.2 h4) (by simp [BN.covers,hb]) (fun k' hk'=>?_));rw [hp,List.getElem?_eq_none (Nat.le_refl _)] at hk'
  cases hk'
 ·exact hP.gap x a1 h4
theorem NxP.go (hV : VsOK V) (hg : V.gone s = false) (hP : NxP V pre key after s h lo n A B) (hp : place key after n.keys = n.keys.length) (hb : n.bnd = true) :
    ∃ n' A' B',Pos V s pre 0 n.next n.high n' A' B'∧msr V s 0 B' < msr V s 0 B∧∀ s' n2 A2 B2,To V s s'→Pos V s' pre 0 n.next n.high n2 A2 B2→NxP V pre key after s' n.next n.high n2 A2 B2:=by
 have hs:=hV.sane s hg
 obtain ⟨l,h1,h2,h3⟩:=hP.at'.ex
 have ht:=hs.ok.tow l h1
 obtain ⟨y,B',e,q3,q4,q5⟩:=h3.nextB ht hb
 rw [q3]
 refine ⟨y.2,_,B',⟨l,h1,h2,q5⟩,by subst e;unfold msr;simp only [List.length_cons];omega,fun s' n2 A2 B2 hto hi=>⟨hi,fun x a1 a2=>?_⟩⟩
 cases h6:slt x lo
 ·refine AbL.onto ?_ hto
  rw [← h2];refine AbL.now hV hg h1 (place_none h3 ht a1 (sle_iff.2 h6) (by simp [BN.covers,a2]) (fun k' hk'=>?_));rw [hp,List.getElem?_eq_none (Nat.le_refl _)] at hk'
  cases hk'
 ·exact (hP.gap x a1 h6).onto hto
end
open Go.RowKit
structure Kp (ρ ρ':Nat→Nat) (w w':World):Prop where
 os:w'.os=w.os
 tape:w'.tape=w.tape
 output:w'.output=w.output
 size:w.heap.size≤w'.heap.size
 box:∀ k,k < w.heap.size→ρ k=0→w'.heap[k]?=w.heap[k]?∧ρ' k=0
section
variable {ρ ρ1 ρ2:Nat→Nat} {w w1 w2:World} {S:List Nat}
theorem Kp.trans (h:Kp ρ ρ1 w w1) (k:Kp ρ1 ρ2 w1 w2):Kp ρ ρ2 w w2 :=
 ⟨k.os.trans h.os,k.tape.trans h.tape,k.output.trans h.output,Nat.le_trans h.size k.size,fun q hq h0=>by
  obtain ⟨a,b⟩:=h.box q hq h0;obtain ⟨c,d⟩:=k.box q (Nat.lt_of_lt_of_le hq h.size) b
  exact ⟨c.trans a,d⟩⟩
theorem Kp.below (hb:Below w.heap.size w w1):Kp ρ ρ w w1:=⟨hb.os,hb.tape,hb.output,hb.size,fun q hq h0=>⟨hb.block q hq,h0⟩⟩
theorem Kp.heap (h:Kp ρ ρ1 w w1) {b:Nat} {o:Obj} (hb:w.heap[b]?=some o) (h0:ρ b=0):w1.heap[b]?=some o∧ρ1 b=0:=by
 obtain ⟨a,c⟩:=h.box b (heap_lt hb) h0
 exact ⟨a.trans hb,c⟩
theorem Kp.own (h:Kp ρ ρ1 w w1) (hu:Upd S w1 w2) (hS:∀ q,q∈S→w.heap.size≤q):Kp ρ ρ1 w w2 :=
 ⟨hu.os.trans h.os,hu.tape.trans h.tape,hu.output.trans h.output,Nat.le_trans h.size hu.size,fun q hq h0=>by
  obtain ⟨a,c⟩:=h.box q hq h0
  exact ⟨by rw [hu.block q (Nat.lt_of_lt_of_le hq h.size) (fun hm=>by have:=hS q hm;omega)];exact a,c⟩⟩
end
abbrev flat (F:List Ly):List (Hd×BN Sl):=F.flatMap fun l=>l.Ls.flatten
structure Seen (w:World) (x:ND):Prop where
 ok:∃ ρ,NOK w ρ x
 k:(∃ f,x.k=.leaf f)∨∃ b,x.k=.inn b
abbrev zMn:Value:=.agg (Value.bool false::(zlc++zic)).toArray
def LookE {σ:Type} (V:Vs σ) (St:σ→World→Prop) (rho:σ→Nat→Nat) (s:σ) (h:Hd) (w:World) (e:Ending) (w':World):Prop :=
 ∃ s',(To V s s'∧V.lb s s')∧(V.free=true∨V.cnt s'≤V.cnt s+1)∧St s' w'∧Kp (rho s) (rho s') w w' ∧
  ((V.gone s'=true∧e=.returned (.tuple #[zMn,.bool false])) ∨
   (V.gone s'=false∧((∃ n,(h,n)∈flat (V.Y s'))→∃ x:ND,e=.returned (.tuple #[.agg x.cs.toArray,.bool true])∧(h,x.bn)∈flat (V.Y s')∧Seen w' x)))
structure Rdr {σ:Type} (w0:World) (V:Vs σ) (t a:Nat) (vis:Value) (St:σ→World→Prop) (rho:σ→Nat→Nat) (KM:Nat):Prop where
 ok:VsOK V
 ro:∀ s w,St s w→Ro w0 w (rho s)
 wr:∀ s w w' S,St s w→Upd S w w'→(∀ q,q∈S→w0.heap.size≤q∧rho s q=0)→St s w'
 tree:∀ s w,St s w→w.cell? ⟨t,1,none⟩=some (.pointer (some ⟨a,0,none⟩))
 root:∀ s w,St s w→∃ r:Hd,w.cell? ⟨t,2,none⟩=some (.int .i64 r.1)∧w.cell? ⟨t,3,none⟩=some (.int .u64 r.2)∧(V.gone s=false→∃ l F',V.Y s=l::F'∧l.r=r)
 look:∀ s w h,St s w→(V.free=true∨V.cnt s+1≤KM)→Calls Tryz.prog 93 #[.pointer (some ⟨t,0,none⟩),hV h,vis] w (LookE V St rho s h w)
section
variable {σ:Type} {w0 w w':World} {V:Vs σ} {t a:Nat} {vis:Value} {St:σ→World→Prop} {rho:σ→Nat→Nat} {KM:Nat} {s s':σ}
theorem Rdr.bel (R:Rdr w0 V t a vis St rho KM) (h:St s w) (hb:Below w.heap.size w w'):St s w':=R.wr s w w' [] h (Upd.of_below hb) (by simp)
theorem Rdr.far (R:Rdr w0 V t a vis St rho KM) (h:St s w) {q:Nat} (hq:w.heap.size≤q):rho s q=0∧w0.heap.size≤q:=⟨(R.ro s w h).far q hq,Nat.le_trans (R.ro s w h).bel.size hq⟩
theorem Seen.below {x:ND} (h:Seen w x) (hb:Below w.heap.size w w'):Seen w' x:=by
 obtain ⟨ρ,hr⟩:=h.ok
 refine ⟨⟨ρ,hr.len,hr.ro,fun q hq=>Nat.lt_of_lt_of_le (hr.lt q hq) hb.size,hr.lf,fun b hb2=>?_⟩,h.k⟩
 obtain ⟨a1,a2,a3,ic,a4,a5⟩:=hr.inn b hb2
 exact ⟨a1,a2,a3,ic,a4,a5.below hb⟩
theorem Seen.len {x:ND} (h:Seen w x):x.cs.length=120:=by
 obtain ⟨ρ,hr⟩:=h.ok
 exact hr.len
theorem Seen.one {x:ND} (h:Seen w x):x.cs.toArray.all (·.oneCell')=true:=by
 obtain ⟨ρ,hr⟩:=h.ok
 refine all_oneCell_toArray fun v hv=>?_
 rcases h.k with ⟨f,hf⟩ | ⟨b,hb⟩
 ·obtain ⟨_,e⟩:=hr.lf f hf
  rw [e] at hv;rcases List.mem_cons.1 hv with rfl | hv
  ·rfl
  ·rcases List.mem_append.1 hv with hv | hv
   ·exact (Array.all_eq_true_iff_forall_mem.1 (lfc_one f)) v (by simpa using hv)
   ·unfold zic at hv
    simp only [List.mem_cons,List.not_mem_nil,or_false] at hv;rcases hv with rfl | rfl | rfl | rfl | rfl | rfl | rfl | rfl <;> rfl
 ·obtain ⟨_,_,_,ic,e,hi⟩:=hr.inn b hb
  rw [e] at hv;rcases List.mem_cons.1 hv with rfl | hv
  ·rfl
  ·rcases List.mem_append.1 hv with hv | hv
   ·have hz:zlc.all (·.oneCell')=true:=by kernel_rfl
    exact List.all_eq_true.1 hz v hv
   ·exact hi.one v hv
theorem Seen.cases {x : ND} (h : Seen w x) : (∃ f, x.bn = f.bn ∧ x.bn.leaf = true ∧ LFOK f ∧ x.cs = .bool true :: (lfc f ++ zic)) ∨
    (x.bn.leaf=false∧(∃ lo,NodeOK lo x.bn)∧x.bn.keys.length≤5∧∃ ic B,x.cs=.bool false::(zlc++ic)∧InC w B ic (down x.bn)):=by
 obtain ⟨ρ,hr⟩:=h.ok
 rcases h.k with ⟨f,hf⟩ | ⟨b,hb⟩
 ·obtain ⟨e1,e2⟩:=hr.lf f hf
  have e:x.bn=f.bn:=by unfold ND.bn;rw [hf]
  exact .inl ⟨f,e,by rw [e];rfl,e1,e2⟩
 ·obtain ⟨a1,a2,a3,ic,a4,a5⟩:=hr.inn b hb
  have e:x.bn=b:=by unfold ND.bn;rw [hb]
  exact .inr ⟨by rw [e];exact a1,by rw [e];exact a2,by rw [e];exact a3,ic,x.B,a4,by rw [e];exact a5⟩
end
structure DB (w:World) (HB MB RB:Nat) (h:Hd) (m:Mk) (W:World):Prop where
 hb:W.heap[HB]?=some (.cells #[.int .i64 h.1,.int .u64 h.2] 71)
 mb:W.heap[MB]?=some (.cells #[.int .u64 ((m.s:Nat):Int),.int .u8 ((m.c:Nat):Int)] 90)
 rb:W.heap[RB]?=some (.cells Tryz.zeroCells95 95)
 ge:w.heap.size≤HB∧w.heap.size≤MB∧w.heap.size≤RB
section
variable {w W W':World} {HB MB RB:Nat} {h h':Hd} {m:Mk} {ρ ρ':Nat→Nat}
theorem DB.below (d:DB w HB MB RB h m W) (hb:Below W.heap.size W W'):DB w HB MB RB h m W':=⟨Below.heap' hb d.hb,Below.heap' hb d.mb,Below.heap' hb d.rb,d.ge⟩
theorem DB.kp (d:DB w HB MB RB h m W) (k:Kp ρ ρ' W W') (h0:ρ HB=0∧ρ MB=0∧ρ RB=0):DB w HB MB RB h m W'∧(ρ' HB=0∧ρ' MB=0∧ρ' RB=0):=by
 obtain ⟨a1,a2⟩:=k.heap d.hb h0.1
 obtain ⟨b1,b2⟩:=k.heap d.mb h0.2.1
 obtain ⟨c1,c2⟩:=k.heap d.rb h0.2.2
 exact ⟨⟨a1,b1,c1,d.ge⟩,a2,b2,c2⟩
theorem DB.set (d:DB w HB MB RB h m W) (g:Hd):DB w HB MB RB g m ((W.setCell ⟨HB,0,none⟩ (.int .i64 g.1)).setCell ⟨HB,1,none⟩ (.int .u64 g.2))∧Upd [HB] W ((W.setCell ⟨HB,0,none⟩ (.int .i64 g.1)).setCell ⟨HB,1,none⟩ (.int .u64 g.2)):=by
 have hu:Upd [HB] W ((W.setCell ⟨HB,0,none⟩ (.int .i64 g.1)).setCell ⟨HB,1,none⟩ (.int .u64 g.2)):=((Upd.refl [HB] W).setCell (p:=⟨HB,0,none⟩) (by simp) _).setCell (p:=⟨HB,1,none⟩) (by simp) _
 have hm:MB≠HB:=fun e=>by
  have:=d.mb;rw [e,d.hb] at this;injection this with this;injection this with _ h2
  revert h2
  decide
 have hr:RB≠HB:=fun e=>by
  have:=d.rb;rw [e,d.hb] at this;injection this with this;injection this with _ h2
  revert h2
  decide
 exact ⟨⟨by rw [heap_set_same (heap_set_same d.hb 0 _) 1 _];rfl,hu.heap d.mb (by simpa using hm),hu.heap d.rb (by simpa using hr),d.ge⟩,hu⟩
end
open Go.RowKit
theorem cov_bn {f:LF} (hf:LFOK f) {m:Mk} (hm:MkOK m):f.cov m=f.bn.covers (mT m):=by
 unfold LF.cov BN.covers LF.bn
 have hh:=hf.hi
 cases hb:f.bnd with
 | false=>rfl
 | true =>
  rw [hb,if_pos rfl] at hh;simp only [if_true,Bool.not_true,Bool.false_or];exact lt_slt hm hh
theorem zMn_size:(Tryz.zeroCells100).size=120:=by kernel_rfl
theorem node_box (w2:World) {cs:List Value} (hl:cs.length=120):((w2.alloc (.cells Tryz.zeroCells100 100)).setCells w2.heap.size 0 cs).heap[w2.heap.size]?=some (.cells cs.toArray 100)∧Below w2.heap.size w2 ((w2.alloc (.cells Tryz.zeroCells100 100)).setCells w2.heap.size 0 cs)∧(w2.alloc (.cells Tryz.zeroCells100 100)).there w2.heap.size 0 cs.toArray.size:=by
 have hb:=heap_alloc_new w2 (.cells Tryz.zeroCells100 100)
 have hB:=(Below.refl w2.heap.size w2).alloc (Nat.le_refl _) (.cells Tryz.zeroCells100 100)
 exact ⟨hb_wholeA hb (by rw [zMn_size,hl]),hB.trans ((hb_upd _ w2.heap.size 0 cs).below hB.size (by simp)),hb_thereA hb (by rw [zMn_size,List.size_toArray,hl];omega)⟩
theorem zMn_len:(Value.bool false::(zlc++zic)).length=120:=by kernel_rfl
theorem zMn_one:(Value.bool false::(zlc++zic)).toArray.all (·.oneCell')=true:=by kernel_rfl
theorem zlc_one:zlc.toArray.all (·.oneCell')=true:=by kernel_rfl
def DownE {σ:Type} (V:Vs σ) (St:σ→World→Prop) (rho:σ→Nat→Nat) (s:σ) (pre:Byt) (m:Mk) (N:Nat) (w:World) (e:Ending) (w':World):Prop :=
 ∃ s',(To V s s'∧V.lb s s')∧St s' w'∧Kp (rho s) (rho s') w w' ∧
  ((V.gone s'=true∧(V.free=true∨V.cnt s'≤N)∧e=.returned (.tuple #[.agg zlc.toArray,.bool false])) ∨
   (V.gone s'=false∧∃ f h' lo' A' B',LFOK f∧e=.returned (.tuple #[lfV f,.bool true])∧Pos V s' pre 0 h' lo' f.bn A' B'∧sle lo' (mT m)=true∧f.bn.covers (mT m)=true∧(V.free=true∨V.cnt s'+msr V s' 0 B'≤N+1)))
structure DnI {σ:Type} (w:World) (V:Vs σ) (St:σ→World→Prop) (rho:σ→Nat→Nat) (s:σ) (pre:Byt) (m:Mk) (N:Nat) (HB MB RB:Nat) (s1:σ) (j:Nat) (h:Hd) (lo:Str) (n:BN Sl) (A B:Lev Sl) (W:World):Prop where
 tos:To V s s1
 st:St s1 W
 pos:V.gone s1=false→Pos V s1 pre j h lo n A B∧sle lo (mT m)=true
 kp:Kp (rho s) (rho s1) w W
 db:DB w HB MB RB h m W
 r0:rho s1 HB=0∧rho s1 MB=0∧rho s1 RB=0
 bd:V.free=true∨V.cnt s1+msr V s1 j B≤N
set_option maxRecDepth 100000 in
set_option maxHeartbeats 4000000 in
theorem Rdr.down {σ : Type} {w0 w : World} {V : Vs σ} {t a : Nat} {vis : Value} {St : σ → World → Prop} {rho : σ → Nat → Nat} {KM : Nat} {s : σ} (R : Rdr w0 V t a vis St rho KM) {pre : Byt} {j : Nat} {h : Hd} {lo : Str} {n : BN Sl} {A B : Lev Sl} {m : Mk} (hm : MkOK m) (hSt : St s w) (hp : V.gone s = false → Pos V s pre j h lo n A B ∧ sle lo (mT m) = true)
    {N:Nat} (hN:V.free=true∨N≤KM) (hbd:V.free=true∨V.cnt s+msr V s j B≤N):Calls Tryz.prog 52 #[.pointer (some ⟨t,0,none⟩),hV h,mkV m,vis] w (DownE V St rho s pre m N w):=by
 have htl:t < w.heap.size:=block_lt_of_cell (R.tree s w hSt)
 have hI0:DnI w V St rho s pre m N w.heap.size (w.heap.size+1) (w.heap.size+2) s j h lo n A B (((w.alloc (.cells #[.int .i64 h.1,.int .u64 h.2] 71)).alloc (.cells #[.int .u64 ((m.s:Nat):Int),.int .u8 ((m.c:Nat):Int)] 90)).alloc (.cells Tryz.zeroCells95 95)):=by
  obtain ⟨b1,b2,b3⟩:=heap_three w (.cells #[.int .i64 h.1,.int .u64 h.2] 71) (.cells #[.int .u64 ((m.s:Nat):Int),.int .u8 ((m.c:Nat):Int)] 90) (.cells Tryz.zeroCells95 95);have hB:=below_three w (.cells #[.int .i64 h.1,.int .u64 h.2] 71) (.cells #[.int .u64 ((m.s:Nat):Int),.int .u8 ((m.c:Nat):Int)] 90) (.cells Tryz.zeroCells95 95);exact ⟨To.refl V s,R.bel hSt hB,hp,Kp.below hB,⟨b1,b2,b3,by omega⟩,⟨(R.far hSt (Nat.le_refl _)).1,(R.far hSt (by omega)).1,(R.far hSt (by omega)).1⟩,hbd⟩
 obtain ⟨W0,hW0⟩:∃ W,W=((w.alloc (.cells #[.int .i64 h.1,.int .u64 h.2] 71)).alloc (.cells #[.int .u64 ((m.s:Nat):Int),.int .u8 ((m.c:Nat):Int)] 90)).alloc (.cells Tryz.zeroCells95 95):=⟨_,rfl⟩
 rw [← hW0] at hI0
 replace hW0:=qh hW0
 replace hbd:=qh hbd
 replace hN:=qh hN
 replace hSt:=qh hSt
 replace hp:=qh hp
 replace htl:=qh htl
 replace R:=qh R
 replace hm:=qh hm
 unfold mkV hV
 go_enter Tryz.func52,Tryz.ntmps52
 go_upto_region 1 with fail
 rw [← hW0.out]
 simp only [show w.heap.size+1+1=w.heap.size+2 from rfl]
 obtain ⟨RB,hRB⟩:∃ b,b=w.heap.size+2:=⟨_,rfl⟩
 obtain ⟨MB,hMB⟩:∃ b,b=w.heap.size+1:=⟨_,rfl⟩
 obtain ⟨HB,hHB⟩:∃ b,b=w.heap.size:=⟨_,rfl⟩
 rw [← hRB,← hMB,← hHB] at hI0 ⊢
 replace hRB:=qh hRB
 replace hMB:=qh hMB
 replace hHB:=qh hHB
 replace hI0:=qh hI0
 go_loopg [11] (msr V s j B) (fun gk _v11 wr=>∃ s1 j1 h1 lo1 n1 A1 B1,gk=msr V s1 j1 B1∧DnI w V St rho s pre m N HB MB RB s1 j1 h1 lo1 n1 A1 B1 wr)
 case atStart=>exact ⟨s,j,h,lo,n,A,B,rfl,hI0.out⟩
 case round =>
  obtain ⟨s1,j1,h1,lo1,n1,A1,B1,rfl,hI⟩:=hrel;clear hI0;obtain ⟨b0,b1,bq,bf0,bf1⟩:=box2 hI.db.hb;have hmp:1≤msr V s1 j1 B1:=by unfold msr;omega
  have hLk:=R.out.look s1 wr h1 hI.st (by
   rcases hI.bd with h9 | h9
   ·exact .inl h9
   ·rcases hN.out with h8 | h8
    ·exact .inl h8
    ·exact .inr (by omega))
  have htl1:t < wr.heap.size:=Nat.lt_of_lt_of_le htl.out hI.kp.size;replace hLk:=qh hLk;replace hI:=qh hI;unfold hV at hLk;go_wp2_with fail;refine hLk.out.mono ?_;rintro e w2 ⟨s2,⟨hTo,hlb⟩,hcn,hSt2,hK,hcase⟩;replace hlb:=qh (R.out.ok.lbl _ _ _ hI.out.tos hlb);obtain ⟨hd2,hr2⟩:=hI.out.db.kp hK hI.out.r0;have hTo2:=hI.out.tos.trans hTo;have hK2:=hI.out.kp.trans hK;clear b0 b1 bq bf0 bf1 hLk htl1;have hge:=hI.out.db.ge;have hw0:w0.heap.size≤w.heap.size:=(R.out.ro s w hSt.out).bel.size;rcases hcase with ⟨hg2,rfl⟩ | ⟨hg2,hx⟩
  ·have hzl:=zMn_len
   have hzo:=zMn_one;unfold zMn;generalize Value.bool false::(zlc++zic)=cz at hzl hzo ⊢;obtain ⟨k1,k2,k3⟩:=node_box w2 hzl;have hd3:=hd2.below k2;have hSt3:=R.out.bel hSt2 k2;have hK3:=hK2.trans (Kp.below k2);have q0:(w2.alloc (.cells Tryz.zeroCells100 100)).heap.size=w2.heap.size+1:=by simp
   obtain ⟨W3,hW3⟩:∃ W,W=(w2.alloc (.cells Tryz.zeroCells100 100)).setCells w2.heap.size 0 cz:=⟨_,rfl⟩;rw [← hW3] at k1 k2 hd3 hSt3 hK3;have hu4:=hb_upd W3 RB 0 zlc;have hSt4:=R.out.wr s2 W3 _ [RB] hSt3 hu4 (fun q hq=>by rw [List.mem_singleton.1 hq];exact ⟨by omega,hr2.2.2⟩);have hK4:=hK3.own hu4 (fun q hq=>by rw [List.mem_singleton.1 hq];exact hge.2.2);have hrb4:=hb_wholeA (vs:=zlc) hd3.rb (by rw [zero_leaf,zlc_len]);have th4:W3.there RB 0 zlc.toArray.size:=hb_thereA hd3.rb (by rw [zero_leaf,List.size_toArray,zlc_len];omega);have hld:=qh (run_loadVar_mid (P:=Tryz.prog) _ RB 0 95 zlc _ (range_of_heap hrb4) Tryz.underlying95 rfl (by rw [zlc_len];kernel_rfl))
   have hfin:Hid (DownE V St rho s pre m N w (.returned (.tuple #[.agg zlc.toArray,.bool false])) (W3.setCells RB 0 zlc)):=qh ⟨s2,⟨hTo2,hlb.out⟩,hSt4,hK4,.inl ⟨hg2,by
    rcases hcn with h9 | h9
    ·exact .inl h9
    ·rcases hI.out.bd with h8 | h8
     ·exact .inl h8
     ·exact .inr (by omega),rfl⟩⟩
   have hrl:=heap_lt hd3.rb;replace k3:=qh k3;replace th4:=qh th4;replace hW3:=qh hW3;replace hd3:=qh hd3;replace hrb4:=qh hrb4;replace hzo:=qh hzo;replace hzl:=qh hzl;clear hd2 hr2 hTo2 hK2 hSt3 hK3 hu4 hSt4 hK4 k1 k2 hcn hSt2 hK hTo hge hw0;go_upto_region 2 with (refine wpList_store_mid rfl 100 (.tmp 10) (.tmp 17) rfl w2.heap.size 0 cz.toArray (by rfl) (by rfl) k3.out (by rw [List.size_toArray,hzl.out];kernel_rfl) hzo.out ?_);rw [← hW3.out];clear q0
   go_wp2_with (refine wpList_store_mid rfl 95 (.tmp 8) (.tmp 21) rfl RB 0 zlc.toArray (by rfl) (by rw [zlc_eq];rfl) th4.out (by rw [List.size_toArray,zlc_len];kernel_rfl) zlc_one ?_)
   refine bodyPost_ret (v:=.tuple #[.agg zlc.toArray,.bool false]) (by simp [results,Tryz.results52,asAddr,hld.out]) rfl hfin.out
  ·have hg1:=(hTo.evo hg2).1
   obtain ⟨hps1,hlow⟩:=hI.out.pos hg1;obtain ⟨n2,A2,B2,hp2,hm2⟩:=hps1.look hTo hg2 (R.out.ok.sane s2 hg2);obtain ⟨x,rfl,hxm,hsn⟩:=hx ⟨n2,hp2.mem⟩;have hxn:=hp2.is (R.out.ok.sane s2 hg2) hxm
   have hbd2:V.free=true∨V.cnt s2+msr V s2 j1 B2≤N+1:=by
    rcases hcn with h9 | h9
    ·exact .inl h9
    ·rcases hI.out.bd with h8 | h8
     ·exact .inl h8
     ·exact .inr (by omega)
   have hxl:=hsn.len;have hxo:=hsn.one;have hcs:=hsn.cases;obtain ⟨k1,k2,k3⟩:=node_box w2 hxl;have hd3:=hd2.below k2;have hSt3:=R.out.bel hSt2 k2;have hK3:=hK2.trans (Kp.below k2);have hnb3:w.heap.size≤w2.heap.size:=hK2.size;clear hps1 hg1;rw [hxn] at hcs;obtain ⟨cx,hcx⟩:∃ c,c=x.cs:=⟨_,rfl⟩;rw [← hcx] at hxl hxo hcs k1 k2 k3 hd3 hSt3 hK3 ⊢;have q0:(w2.alloc (.cells Tryz.zeroCells100 100)).heap.size=w2.heap.size+1:=by simp
   obtain ⟨W3,hW3⟩:∃ W,W=(w2.alloc (.cells Tryz.zeroCells100 100)).setCells w2.heap.size 0 cx:=⟨_,rfl⟩;rw [← hW3] at k1 k2 hd3 hSt3 hK3;replace k1:=qh k1;replace k2:=qh k2;replace k3:=qh k3;replace hW3:=qh hW3;replace hd3:=qh hd3;replace hxo:=qh hxo;replace hxl:=qh hxl;replace hcs:=qh hcs;replace hSt3:=qh hSt3;replace hK3:=qh hK3;replace hTo2:=qh hTo2;replace hp2:=qh hp2;replace hbd2:=qh hbd2;replace hm2:=qh hm2;replace hlow:=qh hlow;replace hge:=qh hge;replace hw0:=qh hw0;replace hr2:=qh hr2;clear hd2 hSt2 hK2 hK hTo hcn hx hxm hsn hxn hcx hI;go_upto_region 2 with (refine wpList_store_mid rfl 100 (.tmp 10) (.tmp 17) rfl w2.heap.size 0 cx.toArray (by rfl) (by rfl) k3.out (by rw [List.size_toArray,hxl.out];kernel_rfl) hxo.out ?_);rw [← hW3.out];clear q0 k3 hW3;obtain ⟨NB,hNB⟩:∃ b,b=w2.heap.size:=⟨_,rfl⟩;rw [← hNB] at k1 k2 hnb3 ⊢;replace hNB:=qh hNB;replace hnb3:=qh hnb3;have q1:=heap_lt k1.out;obtain ⟨m0,m1,mq,-,-⟩:=box2 hd3.out.mb;rcases hcs.out with ⟨f,e1,e2,hf,e3⟩ | ⟨e1,⟨lo3,e2⟩,e3,ic,Bk,e4,hIn⟩
   ·have hLf:LfAt W3 NB 0 f:=LfAt.of (by rw [← e3];exact range_of_heap k1.out)
    have hj0:j1=0:=by
     have:=hp2.out.ok.2;rw [e2] at this;simpa using this.symm
    subst hj0 e1;have hCv:=qh (nd_covers_leaf hLf hf m);replace hLf:=qh hLf;replace hf:=qh hf;clear e2 e3 hcs;have hcv:=cov_bn hf.out hm.out;unfold mkV at hCv
    cases hc:f.cov m with
    | false =>
     rw [hc] at hCv;rw [hc] at hcv;obtain ⟨g1,-,y,A3,B3,gy,n3,hp3,hm3⟩:=hp2.out.right (R.out.ok.sane s2 hg2) hcv.symm;have hNx:=fun W (hW:Below W3.heap.size W3 W)=>nd_next_leaf (hLf.out.below hW) hf.out
     rw [show f.nx=y from gy] at hNx;have hbd3:V.free=true∨V.cnt s2+msr V s2 0 B3≤N:=hbd2.out.imp id fun hh=>by omega
     have hms:msr V s2 0 B3 < msr V s1 0 B1:=by have:=hm2.out;omega
     unfold hV at hNx;replace hNx:=qh hNx;replace hms:=qh hms;replace hbd3:=qh hbd3;replace hp3:=qh hp3;replace g1:=qh g1;clear hc hcv gy hm3;go_wp2_with fail;refine hCv.out.mono ?_;rintro e w4 ⟨rfl,hb4⟩;clear m0 m1 mq;have hb4h:=qh hb4;have nq:=Nat.lt_of_lt_of_le q1 hb4.size;clear hb4 q1;go_wp2_with fail;refine (hNx.out _ hb4h.out).mono ?_;rintro e w5 ⟨rfl,hb5⟩;have hb35:Below W3.heap.size W3 w5:=hb4h.out.trans (hb5.mono hb4h.out.size);have hd5:=hd3.out.below hb35;have hSt5:=R.out.bel hSt3.out hb35;have hK5:=hK3.out.trans (Kp.below hb35);obtain ⟨hd6,hu6⟩:=hd5.set y;obtain ⟨p0,p1,pq,pf0,pf1⟩:=box2 hd5.hb;have hge2:=hge.out;have hw02:=hw0.out;have hSt6:=R.out.wr s2 w5 _ [HB] hSt5 hu6 (fun q hq=>by rw [List.mem_singleton.1 hq];exact ⟨by omega,hr2.out.1⟩);have hK6:=hK5.own hu6 (fun q hq=>by rw [List.mem_singleton.1 hq];exact hge2.1);have hI6:Hid (DnI w V St rho s pre m N HB MB RB s2 0 y f.bn.high n3 A3 B3 _):=qh ⟨hTo2.out,hSt6,fun _=>⟨hp3.out,g1.out⟩,hK6,hd6,hr2.out,hbd3.out⟩;clear hb35 hd5 hSt5 hK5 hd6 hu6 hge2 hw02 hSt6 hK6 hb5 nq;go_wp2_with fail;go_roundg (msr V s2 0 B3)
     case rel=>exact ⟨s2,0,y,_,n3,A3,B3,rfl,hI6.out⟩
     case measure=>exact hms.out
    | true =>
     rw [hc] at hCv;rw [hc] at hcv;have hl111:=lfc_len hf.out.S;have hl1:=lfc_one f;have hfin0:Hid (LFOK f∧f.bn.covers (mT m)=true):=qh ⟨hf.out,hcv.symm⟩;have hlf:=hLf.out;clear hc hcv;go_wp2_with fail;refine hCv.out.mono ?_;rintro e w4 ⟨rfl,hb4⟩;have hl4:=hlf.below hb4;have hd4:=hd3.out.below hb4;have hSt4:=R.out.bel hSt3.out hb4;have hK4:=hK3.out.trans (Kp.below hb4);clear m0 m1 mq;have c0:=hl4.low;have cq:=hl4.lt;have hrr:=qh hl4.leaf
     have hend:Hid (∀ W,W=w4.setCells RB 0 (lfc f)→DownE V St rho s pre m N w (.returned (.tuple #[lfV f,.bool true])) W):=qh (by
      rintro W rfl;have hu4:=hb_upd w4 RB 0 (lfc f);have hge2:=hge.out;have hw02:=hw0.out
      exact ⟨s2,⟨hTo2.out,hlb.out⟩,R.out.wr s2 w4 _ [RB] hSt4 hu4 (fun q hq=>by rw [List.mem_singleton.1 hq];exact ⟨by omega,hr2.out.2.2⟩),hK4.own hu4 (fun q hq=>by rw [List.mem_singleton.1 hq];exact hge2.2.2),.inr ⟨hg2,f,h1,lo1,A2,B2,hf.out,rfl,hp2.out,hlow.out,hfin0.out.2,hbd2.out⟩⟩)
     unfold lfV at hend;obtain ⟨cl,hcl⟩:∃ c,c=lfc f:=⟨_,rfl⟩;rw [← hcl] at hl111 hl1 hrr hend;have hrb4:=hb_wholeA (vs:=cl) hd4.rb (by rw [zero_leaf,hl111]);have th4:w4.there RB 0 cl.toArray.size:=hb_thereA hd4.rb (by rw [zero_leaf,List.size_toArray,hl111];omega);have hld:=qh (run_loadVar_mid (P:=Tryz.prog) _ RB 0 95 cl _ (range_of_heap hrb4) Tryz.underlying95 rfl (by rw [hl111];kernel_rfl));replace hl111:=qh hl111;replace hl1:=qh hl1;replace th4:=qh th4;replace hrb4:=qh hrb4;replace hcl:=qh hcl;clear hl4 hd4 hSt4 hK4 hlf hb4
     go_wp2_with (first
      | refine wpList_load_mid rfl 95 (.tmp 38) rfl NB 1 (by rfl) cl _ hrr.out Tryz.underlying95 rfl (by rw [hl111.out];kernel_rfl) ?_
      | refine wpList_store_mid rfl 95 (.tmp 8) (.tmp 39) rfl RB 0 cl.toArray (by rfl) (by rfl) th4.out (by rw [List.size_toArray,hl111.out];kernel_rfl) hl1.out ?_)
     refine bodyPost_ret (v:=.tuple #[.agg cl.toArray,.bool true]) (by simp [results,Tryz.results52,asAddr,hld.out]) rfl (hend.out _ rfl)
   ·have hIa:InAt W3 NB 0 ic:=InAt.of (by rw [← e4];exact range_of_heap k1.out)
    have hIn3:=hIn.below (by rw [← hNB.out];exact k2.out);have hCv:=qh (nd_covers_inn hIa hIn3 m hm.out);unfold mkV at hCv
    cases hc:n2.covers (mT m) with
    | false =>
     rw [hc] at hCv;obtain ⟨g1,-,y,A3,B3,gy,n3,hp3,hm3⟩:=hp2.out.right (R.out.ok.sane s2 hg2) hc;have hNx:=fun W (hW:Below W3.heap.size W3 W)=>nd_next_inn (hIa.below hW) (hIn3.below hW)
     rw [gy] at hNx;have hbd3:V.free=true∨V.cnt s2+msr V s2 j1 B3≤N:=hbd2.out.imp id fun hh=>by omega
     have hms:msr V s2 j1 B3 < msr V s1 j1 B1:=by have:=hm2.out;omega
     unfold hV at hNx;replace hNx:=qh hNx;replace hms:=qh hms;replace hbd3:=qh hbd3;replace hp3:=qh hp3;replace g1:=qh g1;clear hc gy hm3 hcs hIn hIn3 hIa e1 e2 e3 e4;go_wp2_with fail;refine hCv.out.mono ?_;rintro e w4 ⟨rfl,hb4⟩;clear m0 m1 mq;have hb4h:=qh hb4;have nq:=Nat.lt_of_lt_of_le q1 hb4.size;clear hb4 q1;go_wp2_with fail;refine (hNx.out _ hb4h.out).mono ?_;rintro e w5 ⟨rfl,hb5⟩;have hb35:Below W3.heap.size W3 w5:=hb4h.out.trans (hb5.mono hb4h.out.size);have hd5:=hd3.out.below hb35;have hSt5:=R.out.bel hSt3.out hb35;have hK5:=hK3.out.trans (Kp.below hb35);obtain ⟨hd6,hu6⟩:=hd5.set y;obtain ⟨p0,p1,pq,pf0,pf1⟩:=box2 hd5.hb;have hge2:=hge.out;have hw02:=hw0.out;have hSt6:=R.out.wr s2 w5 _ [HB] hSt5 hu6 (fun q hq=>by rw [List.mem_singleton.1 hq];exact ⟨by omega,hr2.out.1⟩);have hK6:=hK5.own hu6 (fun q hq=>by rw [List.mem_singleton.1 hq];exact hge2.1);have hI6:Hid (DnI w V St rho s pre m N HB MB RB s2 j1 y n2.high n3 A3 B3 _):=qh ⟨hTo2.out,hSt6,fun _=>⟨hp3.out,g1.out⟩,hK6,hd6,hr2.out,hbd3.out⟩;clear hb35 hd5 hSt5 hK5 hd6 hu6 hge2 hw02 hSt6 hK6 hb5 nq;go_wp2_with fail;go_roundg (msr V s2 j1 B3)
     case rel=>exact ⟨s2,j1,y,_,n3,A3,B3,rfl,hI6.out⟩
     case measure=>exact hms.out
    | true =>
     rw [hc] at hCv
     have hj:∃ i,j1=i+1:=by
      have:=hp2.out.ok.2;rw [e1] at this
      exact ⟨j1 - 1,by
       rcases Nat.eq_zero_or_pos j1 with h9 | h9
       ·subst h9;simp at this
       ·omega⟩
     obtain ⟨i,rfl⟩:=hj;obtain ⟨y,lo4,n3,A3,B3,gk,hp3,g1,hm3⟩:=hp2.out.kid (R.out.ok.sane s2 hg2) hlow.out hc;have hKd:=qh fun W (hW:Below W3.heap.size W3 W)=>(hIn3.below hW).kid (key:=mT m) (g:=y) (down_ok e2 e1) (by show n2.keys.length≤1000;omega) rfl (by show n2.covers (mT m)=true;exact hc) gk
     have hTx:=qh fun W=>mkText_any m hm.out W
     have hil:=hIn3.len;have hir:=hIa.inn;have hbd3:V.free=true∨V.cnt s2+msr V s2 i B3≤N:=hbd2.out.imp id fun hh=>by omega
     have hms:msr V s2 i B3 < msr V s1 (i+1) B1:=by have:=hm2.out;omega
     have hlw:=hIa.low;unfold mkV at hTx;obtain ⟨T,hT0⟩:∃ T,T=mT m:=⟨_,rfl⟩;rw [← hT0] at hKd hTx;replace hms:=qh hms;replace hbd3:=qh hbd3;replace hp3:=qh hp3;replace g1:=qh g1;replace hil:=qh hil;replace hT0:=qh hT0;clear hc gk hm3 hcs hIn hIn3 hIa e1 e2 e3 e4;go_wp2_with fail;refine hCv.out.mono ?_;rintro e w4 ⟨rfl,hb4⟩;clear m0 m1 mq;have hb4h:=qh hb4;have nq:=Nat.lt_of_lt_of_le q1 hb4.size;have c0:=keep hb4 hlw;have hir4:=rng_below hir hb4;have hmb4:=Below.heap' hb4 hd3.out.mb;clear hb4 q1 hlw hir;go_upto_region 4 with fail;refine wp_region_held_drew (S:=fun W'=>W'.rangeAt NB 112 ic∧W'.heap[MB]?=some (.cells #[.int .u64 ((m.s:Nat):Int),.int .u8 ((m.c:Nat):Int)] 90)) rfl ⟨by simpa using hir4,hmb4⟩ (fun hHeld=>?_);refine tkL 0 ?_;refine ykL 1 ?_ (hy:=yieldsIf_load_mid (by rfl) 98 (.tmp 23) rfl NB (112) (by rfl) ic _ (fun w hw=>hw.1) Tryz.underlying98 rfl (by rw [hil.out];kernel_rfl));refine ykL 2 ?_ (hy:=yieldsIf_load_mid (by rfl) 90 (.tmp 6) rfl MB (0) (by rfl) [.int .u64 ((m.s:Nat):Int),.int .u8 ((m.c:Nat):Int)] _ (fun w hw=>range_of_heap hw.2) Tryz.underlying90 rfl (by kernel_rfl));refine rdL 3 ?_;intro K hK;go_simp;go_at_call 97;refine (hTx.out _).mono ?_;rintro z w5 ⟨rfl,hb⟩;have hb5:=qh (hb4h.out.trans ((((Below.refl w4.heap.size w4).drew.trans hb)).mono hb4h.out.size));have hS1:=And.intro (rng_below hHeld.1 hb) (Below.heap' hb hHeld.2);clear hb;go_wp2_with fail
     refine hK.out _ _ hS1 (fun _=>?_);clear hHeld hK K;have hHeld:=hS1;clear hS1
     try simp only [Act.put,zs1,zs2,zs3]
     refine rdL 4 ?_;intro K hK;go_simp;go_at_call 96;refine (hKd.out _ hb5.out).mono ?_;rintro z w6 ⟨rfl,hb⟩;have hb6:=qh (hb5.out.trans (hb.mono hb5.out.size));have hS1:=And.intro (rng_below hHeld.1 hb) (Below.heap' hb hHeld.2);clear hb;go_wp2_with fail;refine hK.out _ _ hS1 (fun _=>?_);clear hHeld hK K;have hHeld:=hS1;clear hS1
     try simp only [Act.put,zs1,zs2,zs3]
     refine tkL 5 ?_;refine tkL 6 ?_;refine tkL 7 ?_;have hd5:=hd3.out.below hb6.out;have hSt5:=R.out.bel hSt3.out hb6.out;have hK5:=hK3.out.trans (Kp.below hb6.out);obtain ⟨hd6,hu6⟩:=hd5.set y;obtain ⟨p0,p1,pq,pf0,pf1⟩:=box2 hd5.hb;have hge2:=hge.out;have hw02:=hw0.out;have hSt6:=R.out.wr s2 w6 _ [HB] hSt5 hu6 (fun q hq=>by rw [List.mem_singleton.1 hq];exact ⟨by omega,hr2.out.1⟩);have hK6:=hK5.own hu6 (fun q hq=>by rw [List.mem_singleton.1 hq];exact hge2.1);have hnh:NB≠HB:=by have:=heap_lt hd3.out.hb;have h7:=hnb3.out;intro e;have h8:=k1.out;rw [e,hd3.out.hb] at h8;injection h8 with h8;injection h8 with _ h8;revert h8;decide
     have hmh:MB≠HB:=by intro e;have h8:=hd3.out.mb;rw [e,hd3.out.hb] at h8;injection h8 with h8;injection h8 with _ h8;revert h8;decide
     have hI6:Hid (DnI w V St rho s pre m N HB MB RB s2 i y lo4 n3 A3 B3 ((w6.setCell ⟨HB,0,none⟩ (.int .i64 y.1)).setCell ⟨HB,1,none⟩ (.int .u64 y.2))):=qh ⟨hTo2.out,hSt6,fun _=>⟨hp3.out,g1.out⟩,hK6,hd6,hr2.out,hbd3.out⟩;have hS1:((w6.setCell ⟨HB,0,none⟩ (.int .i64 y.1)).setCell ⟨HB,1,none⟩ (.int .u64 y.2)).rangeAt NB 112 ic∧((w6.setCell ⟨HB,0,none⟩ (.int .i64 y.1)).setCell ⟨HB,1,none⟩ (.int .u64 y.2)).heap[MB]?=some (.cells #[.int .u64 ((m.s:Nat):Int),.int .u8 ((m.c:Nat):Int)] 90):=⟨fun jj v hv=>hu6.cell (hHeld.1 jj v hv) (by simpa using hnh),hu6.heap hHeld.2 (by simpa using hmh)⟩;clear hd5 hSt5 hK5 hd6 hu6 hge2 hw02 hSt6 hK6 hnh hmh;replace hS1:=qh hS1;refine rdL 8 ?_;intro K hK;go_simp;replace hS1:=hS1.out;refine hK.out _ _ hS1 (fun _=>?_);clear hHeld hK K;have hHeld:=hS1;clear hS1
     try simp only [Act.put]
     refine wpAnyH_done (by kernel_rfl) ?_ _
     try simp only [Exit.then]
     clear hHeld;go_wp2_with fail;go_roundg (msr V s2 i B3)
     case rel=>exact ⟨s2,i,y,_,n3,A3,B3,rfl,hI6.out⟩
     case measure=>exact hms.out
end Go.Proofs.YtbdealmkmpnpoaaGreat.M
