import Derived.Test.YtbdealmkmpnpoaaGreatChecked
import Derived.StillTailTactics
import Derived.WalkLawsBesides
import Derived.WalkSpells
import Derived.Outline
import Derived.BigQuiet
import Derived.WalkSmall
import Derived.RegionTactic
import Derived.IntWalk
import Derived.Laws.MakeOwn
import Derived.Lib.SliceRun
import Derived.Deep.RegionLaw
import Derived.BigRegion
import Derived.Deep.CutBlock
import Derived.Deep.DeepCutAuto
import Derived.Laws.Bits64b
import Derived.WalkKit
import Derived.Deep.RegionHeld3
import Derived.Deep.OwnRows
import Derived.LoopTactic
import Derived.Deep.LoopGhost
import Derived.Handy
import Derived.Laws.BitsLemmas
import Derived.Test.YtbdealmkmpnpoaaGreatQk01
set_option linter.all false
namespace Go.Proofs.YtbdealmkmpnpoaaGreat
open Go.RowKit
namespace InHd
theorem info:∃ i0:TypeInfo,Tryz.prog.info? 71=some i0∧i0.zero=some (.agg #[.int .i64 0,.int .u64 0])∧i0.size=2∧i0.bytes=16:=info_parts (show (Tryz.prog.info? 71).map (fun i=>(i.zero,i.size,i.bytes))=some (some (.agg #[.int .i64 0,.int .u64 0]),2,16) by kernel_rfl)
theorem size_is:(Tryz.prog.info? 71).map (·.size)=some 2:=by kernel_rfl
def InsEnd {α:Type} (f:α→List Value) (base:Nat) (v:Value) (L:List α) (w:World) (x:Ending) (w':World):Prop :=
 ∃ a c,x=.returned (.slice a L.length c)∧Row base 71 2 f w' (.slice a L.length c) L∧Upd v.ownBlock.toList w w'∧((Value.slice a L.length c).ownBlock=v.ownBlock∨(Value.slice a L.length c).ownBlock=some w.heap.size)
variable {α:Type} (f:α→List Value) (base:Nat) (a:Option Addr) (c:Nat) (L:List α) (x:α) (vb:Nat) (w:World)
set_option maxRecDepth 100000 in
theorem insert_end (h : Row base 71 2 f w (.slice a L.length c) L) (hv : w.heap[vb]? = some (.cells (f x).toArray 71)) (hbase : base ≤ w.heap.size) (hlen : L.length ≤ 100000) :
    Calls Tryz.prog 145 #[.slice a L.length c,.int .i64 L.length,.slice (some ⟨vb,0,none⟩) 1 1] w (InsEnd f base (.slice a L.length c) (L++[x]) w):=by
 obtain ⟨i0,hi0,hz0,hz1,hz2⟩:=info
 have hcl:(L.length:Int)≤9223372036854775807:=by omega
 have hS:SrcOf w (.slice (some ⟨vb,0,none⟩) 1 1) [x].length 2 ([x].flatMap f):=by
  refine ⟨by simp [h.1],by simpa using h.2.1 x,.inr ⟨_,_,rfl,fun j y hj=>?_⟩⟩;rw [Addr.add_lit,Nat.zero_add,cell_of_heap hv];simpa using hj
 have hm:L.length+[x].length≤maxLen:=by unfold maxLen;simp;omega
 have hby:(L.length+[x].length)*16≤140737488355328:=by simp;omega
 have hc0:L.length≤c:=by
  rcases h.cases with ⟨h1,rfl⟩ | ⟨b,cap,h1,_,_,_,h5,_⟩
  ·exact Nat.zero_le _
  ·injection h1 with _ _ h3
   omega
 have hc63:c≤9223372036854775807:=by
  rcases h.cases with ⟨h1,rfl⟩ | ⟨b,cap,h1,_,_,_,h5,h6,_⟩
  ·injection h1 with _ _ h3
   omega
  ·injection h1 with _ _ h3
   unfold maxLen at h6;omega
 replace hS:=qh hS
 replace h:=qh h
 replace hm:=qh hm
 replace hby:=qh hby
 replace hbase:=qh hbase
 go_enter Tryz.func145,Tryz.ntmps145
 go_wp2_with (at_builtin;refine wpList_append_row (f:=f) (M:=[x]) _ rfl _ _ 77 rfl base 71 i0 (.agg #[.int .i64 0,.int .u64 0]) 2 16 Tryz.underlying77 hi0 hz0 hz1 hz2 rfl (by decide) (.slice a L.length c) L rfl h.out (.slice (some ⟨vb,0,none⟩) 1 1) rfl hS.out hm.out hby.out hbase.out ?_;intro a' c' w1 hrow hu hat;replace hrow:=qh hrow;replace hu:=qh hu;replace hat:=qh hat)
 all_goals
  go_ret
  try (have hcc : c = L.length := by assumption
       subst hcc)
  have hrow':=hrow.out;have hu':=hu.out;have hat':=hat.out;simp only [List.length_singleton] at hrow' hat';refine ⟨a',c',?_,?_,hu',?_⟩
  ·simp
  ·simpa using hrow'
  ·simpa using hat'
set_option maxRecDepth 100000 in
theorem insert_room (h : Row base 71 2 f w (.slice a L.length c) L) (hv : w.heap[vb]? = some (.cells (f x).toArray 71)) (hlen : L.length ≤ 100000) (i : Nat) (hi : i < L.length) (hroom : L.length + 1 ≤ c)
    (hne:∀ b,(Value.slice a L.length c).ownBlock=some b→b≠vb) :
    Calls Tryz.prog 145 #[.slice a L.length c,.int .i64 i,.slice (some ⟨vb,0,none⟩) 1 1] w (InsEnd f base (.slice a L.length c) (L.insertIdx i x) w):=by
 obtain ⟨hf,h1,hl0,⟨e,e2⟩ | ⟨g,cap,cur,e,q1,q2,q3,q4,q5,q6⟩⟩:=h
 ·omega
 injection e with e _ e3
 subst e e3
 have hgv:g≠vb:=hne g rfl
 have hgl:=heap_lt q2
 have hfx:=hf x
 have hF:=flat_len hf L
 have hFb:((L.drop i).flatMap f).length=(L.length - i)*2:=by rw [flat_len hf,List.length_drop]
 have hcap63:c≤9223372036854775807:=by unfold maxLen at q4;omega
 have hsz:cur.size=c*2:=q5
 have hparts:L.flatMap f=(L.take i).flatMap f++(L.drop i).flatMap f:=by rw [← List.flatMap_append,List.take_append_drop]
 have hFa:((L.take i).flatMap f).length=i*2:=by rw [flat_len hf,List.length_take,Nat.min_eq_left (by omega)]
 have hcurget:∀ j y,j < L.length*2→(L.flatMap f)[j]?=some y→cur[j]?=some y:=fun j y hj hy=>by
  rw [← q6] at hy;rw [List.getElem?_take,if_pos hj] at hy;simpa using hy
 obtain ⟨cur1,hcur1⟩:∃ cur1,cur1=(cur.toList.take ((i+1)*2)++(L.drop i).flatMap f++cur.toList.drop (((i+1)*2)+((L.drop i).flatMap f).length)).toArray:=⟨_,rfl⟩
 obtain ⟨cur2,hcur2⟩:∃ cur2,cur2=(cur1.toList.take (i*2)++f x++cur1.toList.drop ((i*2)+(f x).length)).toArray:=⟨_,rfl⟩
 have hs1:cur1.size=c*2:=by
  rw [hcur1];simp only [List.size_toArray,List.length_append,List.length_take,List.length_drop,Array.length_toList,hFb,hsz];omega
 have hs2:cur2.size=c*2:=by
  rw [hcur2];simp only [List.size_toArray,List.length_append,List.length_take,List.length_drop,Array.length_toList,hfx,hs1];omega
 have hcp1:∀ ty dc sc,(Builtin.copy_ #[77,77] ty #[.slice (some ⟨g,((i+1)*2),none⟩) (L.length - i) dc,.slice (some ⟨g,(i*2),none⟩) (L.length+1 - i) sc]).run Tryz.prog w.drew=.ok (goInt (Nat.min (L.length+1 - i) (L.length - i))) (w.drew.setRow g cur1):=fun ty dc sc=>by
  rw [hcur1];refine run_copy_rowk w.drew _ _ ty 71 2 g _ _ _ ⟨g,(i*2),none⟩ _ _ cur 71 _ Tryz.underlying77 size_is q2 (by rw [hFb];congr 1;simp only [Nat.min_def];split <;> omega) (fun j y hj=>?_) (by rw [hFb,hsz];omega) (flat_one h1 _);have hjl:=(List.getElem?_eq_some_iff.1 hj).1;rw [hFb] at hjl;rw [Addr.add_lit]
  show w.cell? _=_
  rw [cell_of_heap q2];refine hcurget _ _ (by omega) ?_;rw [hparts,List.getElem?_append_right (by rw [hFa];omega),hFa];rw [← hj]
  congr 1
  omega
 have hcp2:∀ W:World,W.heap[g]?=some (.cells cur1 71)→(∀ j,W.cell? ⟨vb,j,none⟩=w.cell? ⟨vb,j,none⟩)→∀ ty dc,(Builtin.copy_ #[77,77] ty #[.slice (some ⟨g,(i*2),none⟩) (L.length+1 - i) dc,.slice (some ⟨vb,0,none⟩) 1 1]).run Tryz.prog W=.ok (goInt (Nat.min 1 (L.length+1 - i))) (W.setRow g cur2):=fun W hW hWv ty dc=>by
  rw [hcur2];refine run_copy_rowk W _ _ ty 71 2 g _ _ _ ⟨vb,0,none⟩ _ _ cur1 71 _ Tryz.underlying77 size_is hW (by rw [hfx];simp only [Nat.min_def];split <;> omega) (fun j y hj=>?_) (by rw [hfx,hs1];omega) (h1 x);rw [Addr.add_lit,Nat.zero_add,hWv,cell_of_heap hv];simpa using hj
 have hov:∀ lb cb,(callFunc 155 #[.slice (some ⟨vb,0,none⟩) 1 1,.slice (some ⟨g,((i+1)*2),none⟩) lb cb]).run Tryz.prog w=.ok (.value (.bool false)) w:=fun lb cb=>by
  rw [run_callFunc_extern Tryz.func155 (by kernel_rfl) (by kernel_rfl) (by kernel_rfl) (e:=Extern.SlicesOverlaps.overlaps #[77,77] #[4]) (by kernel_rfl),
   Lib.run_overlaps_apart w 77 4 71 Tryz.underlying77 2 Tryz.sizeOf71 ⟨vb,0,none⟩ ⟨g,((i+1)*2),none⟩ 1 1 lb cb (Ne.symm hgv) _ _ _ _ (shape_of_heap hv) (shape_of_heap q2) (by rw [hsz];omega) (frozen_of_heap hv _) (frozen_of_heap hv _)]
  rfl
 have hw1:IntKind.i64.wrap ((i:Int)+1)=(i:Int)+1:=IntWalk.i64_in _ (by omega)
 have hw2:IntKind.i64.wrap ((L.length:Int)+1)=(L.length:Int)+1:=IntWalk.i64_in _ (by omega)
 have g1:¬ ((i:Int)=(L.length:Int)):=by omega
 have g2:(0:Int)≤(i:Int)+1:=by omega
 have g3:((i:Int)+1).toNat=i+1:=by omega
 have g4:¬ c=i+1:=by omega
 have g5:¬ c=i:=by omega
 have g6:(i:Int)≤(L.length:Int)+1:=by omega
 have g7:¬ (c:Int) < (L.length:Int)+1:=by omega
 have g8:i≤L.length:=by omega
 replace hcp2:=qh hcp2
 replace hcurget:=qh hcurget
 replace hcur1:=qh hcur1
 replace hcur2:=qh hcur2
 replace hf:=qh hf
 replace h1:=qh h1
 go_enter Tryz.func145,Tryz.ntmps145
 go_wp2_with (simp only [hov])
 go_region_law (refine step_copy_is rfl _ _ 77 77 rfl _ _ (by simp [Act.eval,Act.put]) (by simp [Act.eval,Act.put]) (hcp1 _ _ _) ?_)
 have hh1:(w.drew.setRow g cur1).heap[g]?=some (.cells cur1 71):=setRow_heap _ _ _ _ _ _ q2
 have hh2:∀ j,(w.drew.setRow g cur1).cell? ⟨vb,j,none⟩=w.cell? ⟨vb,j,none⟩:=fun j=>World.cell?_of_block (setRow_other w.drew g vb cur1 (Ne.symm hgv))
 have hu1:Upd [g] w (w.drew.setRow g cur1):=((Upd.refl _ _).drew).setRow (by simp) _
 generalize w.drew.setRow g cur1=W1 at *
 replace hh2:=qh hh2
 replace hcp1:=qh hcp1
 go_wp2_with fail
 rw [hcp2.out W1 hh1 hh2.out]
 simp only [Result.andThen]
 rw [Oper.upon_value]
 have hh3:(W1.setRow g cur2).heap[g]?=some (.cells cur2 71):=setRow_heap _ _ _ _ _ _ hh1
 have hu2:Upd [g] w (W1.setRow g cur2):=hu1.setRow (by simp) _
 generalize W1.setRow g cur2=W2 at *
 go_wp2_with fail
 go_ret
 have hL:(L.insertIdx i x).length=L.length+1:=List.length_insertIdx_of_le_length g8 _
 refine ⟨some ⟨g,0,none⟩,c,by simp [hL],?_,hu2.mono (by simp [Value.ownBlock]),.inl (by simp [Value.ownBlock])⟩
 refine ⟨hf.out,h1.out,flat_len hf.out _,.inr ⟨g,c,cur2,by rw [hL],q1,hh3,by omega,q4,hs2,?_⟩⟩
 rw [hL,insert_flat L x i g8,hcur2.out,hcur1.out]
 have hshift:=shift_lists (C:=cur.toList) (n:=L.length*2) (a1:=(i*2)) (a2:=((i+1)*2)) (k:=2) (q6.trans hparts) (by omega) (by omega) hfx (by omega) (by omega) (by have:cur.toList.length=cur.size:=Array.length_toList;omega)
 rw [show (L.length+1)*2=L.length*2+2 by omega]
 simpa using hshift
theorem zero_size:(.agg #[.int .i64 0,.int .u64 0]:Value).cells.size=2:=rfl
set_option maxRecDepth 100000 in
theorem insert_grow (h : Row base 71 2 f w (.slice a L.length c) L) (hv : w.heap[vb]? = some (.cells (f x).toArray 71)) (hbase : base ≤ w.heap.size) (hlen : L.length ≤ 100000) (i : Nat) (hi : i < L.length) (hroom : c < L.length + 1) :
    Calls Tryz.prog 145 #[.slice a L.length c,.int .i64 i,.slice (some ⟨vb,0,none⟩) 1 1] w (InsEnd f base (.slice a L.length c) (L.insertIdx i x) w):=by
 obtain ⟨i0,hi0,hz0,hzs,hzb⟩:=info
 obtain ⟨hf,h1,hl0,⟨e,e2⟩ | ⟨g,cap,cur,e,q1,q2,q3,q4,q5,q6⟩⟩:=h
 ·omega
 injection e with e _ e3
 subst e e3
 have hgl:=heap_lt q2
 have hvl:=heap_lt hv
 have hfx:=hf x
 have hF:=flat_len hf L
 have hFb:((L.drop i).flatMap f).length=(L.length - i)*2:=by rw [flat_len hf,List.length_drop]
 have hcap63:c≤9223372036854775807:=by unfold maxLen at q4;omega
 have hsz:cur.size=c*2:=q5
 have hparts:L.flatMap f=(L.take i).flatMap f++(L.drop i).flatMap f:=by rw [← List.flatMap_append,List.take_append_drop]
 have hFa:((L.take i).flatMap f).length=i*2:=by rw [flat_len hf,List.length_take,Nat.min_eq_left (by omega)]
 have hcurget:∀ j y,j < L.length*2→(L.flatMap f)[j]?=some y→cur[j]?=some y:=fun j y hj hy=>by
  rw [← q6] at hy;rw [List.getElem?_take,if_pos hj] at hy;simpa using hy
 have hold:(Builtin.firstCells i0.size i (.slice (some ⟨g,0,none⟩) i c)).run Tryz.prog w.drew=.ok ((L.take i).flatMap f).toArray w.drew:=by
  rw [hzs];refine run_firstCells_some w.drew 2 i ⟨g,0,none⟩ i c _ hFa (fun j y hj=>?_);have hjl:=(List.getElem?_eq_some_iff.1 hj).1;rw [Addr.add_lit,Nat.zero_add]
  show w.cell? _=_
  rw [cell_of_heap q2];refine hcurget _ _ (by omega) ?_;rw [hparts,List.getElem?_append_left hjl];exact hj
 have hkk:(L.length:Int)+1 - (i:Int)=((L.length+1 - i:Nat):Int):=by omega
 have hik:i+(L.length+1 - i)=L.length+1:=by omega
 obtain ⟨G,hG⟩:∃ G,G=grownCap w (L.length+1) c 71:=⟨_,rfl⟩
 obtain ⟨ROW,hROW⟩:∃ ROW:Array Value,ROW=((L.take i).flatMap f).toArray++Builtin.zeroCells (.agg #[.int .i64 0,.int .u64 0]:Value).cells (L.length+1 - i)++Builtin.zeroCells (.agg #[.int .i64 0,.int .u64 0]:Value).cells (G - (L.length+1)):=⟨_,rfl⟩
 have hrz:∀ ty,(Builtin.append_ #[77,3] ty #[.slice (some ⟨g,0,none⟩) i c,.int .i64 ((L.length:Int)+1 - (i:Int))]).run Tryz.prog w=.ok (.slice (some ⟨w.heap.size,0,none⟩) (L.length+1) G) (w.drew.alloc (.cells ROW 71)):=fun ty=>by
  have h:=Lib.run_append_grow_zeros w 77 3 ty 71 i0 _ .i64 .i64 Tryz.underlying77 Tryz.underlying3 hi0 hz0 (some ⟨g,0,none⟩) i c _ hold (L.length+1 - i) (by omega) (by omega) (by omega) (by omega) (by rw [hzb];omega) (by rw [hzb,hik];exact growslice_fits hroom (by omega));rw [hik] at h;rw [hkk,hROW,hG];exact h
 have hGn:L.length+1≤G:=by rw [hG];exact grownCap_ge w _ _ _
 have hG63:G≤maxLen:=by
  rw [hG];exact grownCap_le_maxLen w (L.length+1) c 71 (by unfold maxLen;omega)
 have hG63':G≤9223372036854775807:=by unfold maxLen at hG63;omega
 have hRs:ROW.size=G*2:=by
  rw [hROW];simp only [Array.size_append,List.size_toArray,hFa,Builtin.zeroCells,Array.size_map,Array.size_range,zero_size];omega
 obtain ⟨R1,hR1⟩:∃ R1,R1=(ROW.toList.take (i*2)++f x++ROW.toList.drop ((i*2)+(f x).length)).toArray:=⟨_,rfl⟩
 obtain ⟨R2,hR2⟩:∃ R2,R2=(R1.toList.take ((i+1)*2)++(L.drop i).flatMap f++R1.toList.drop (((i+1)*2)+((L.drop i).flatMap f).length)).toArray:=⟨_,rfl⟩
 have hs1:R1.size=G*2:=by
  rw [hR1];simp only [List.size_toArray,List.length_append,List.length_take,List.length_drop,Array.length_toList,hfx,hRs];omega
 have hs2:R2.size=G*2:=by
  rw [hR2];simp only [List.size_toArray,List.length_append,List.length_take,List.length_drop,Array.length_toList,hFb,hs1];omega
 have hcp2:∀ W:World,W.heap[w.heap.size]?=some (.cells ROW 71)→(∀ j,W.cell? ⟨vb,j,none⟩=w.cell? ⟨vb,j,none⟩)→∀ ty dc,(Builtin.copy_ #[77,77] ty #[.slice (some ⟨w.heap.size,(i*2),none⟩) (L.length+1 - i) dc,.slice (some ⟨vb,0,none⟩) 1 1]).run Tryz.prog W=.ok (goInt (Nat.min 1 (L.length+1 - i))) (W.setRow w.heap.size R1):=fun W hW hWv ty dc=>by
  rw [hR1];refine run_copy_rowk W _ _ ty 71 2 w.heap.size _ _ _ ⟨vb,0,none⟩ _ _ ROW 71 _ Tryz.underlying77 size_is hW (by rw [hfx];simp only [Nat.min_def];split <;> omega) (fun j y hj=>?_) (by rw [hfx,hRs];omega) (h1 x);rw [Addr.add_lit,Nat.zero_add,hWv,cell_of_heap hv];simpa using hj
 have hcp1:∀ W:World,W.heap[w.heap.size]?=some (.cells R1 71)→(∀ j,W.cell? ⟨g,j,none⟩=w.cell? ⟨g,j,none⟩)→∀ ty dc sc,(Builtin.copy_ #[77,77] ty #[.slice (some ⟨w.heap.size,((i+1)*2),none⟩) (L.length - i) dc,.slice (some ⟨g,(i*2),none⟩) (L.length - i) sc]).run Tryz.prog W=.ok (goInt (Nat.min (L.length - i) (L.length - i))) (W.setRow w.heap.size R2):=fun W hW hWg ty dc sc=>by
  rw [hR2];refine run_copy_rowk W _ _ ty 71 2 w.heap.size _ _ _ ⟨g,(i*2),none⟩ _ _ R1 71 _ Tryz.underlying77 size_is hW (by rw [hFb];congr 1;simp only [Nat.min_def];split <;> omega) (fun j y hj=>?_) (by rw [hFb,hs1];omega) (flat_one h1 _);have hjl:=(List.getElem?_eq_some_iff.1 hj).1;rw [hFb] at hjl;rw [Addr.add_lit,hWg,cell_of_heap q2];refine hcurget _ _ (by omega) ?_;rw [hparts,List.getElem?_append_right (by rw [hFa];omega),hFa];rw [← hj]
  congr 1
  omega
 have hw1:IntKind.i64.wrap ((i:Int)+1)=(i:Int)+1:=IntWalk.i64_in _ (by omega)
 have hw2:IntKind.i64.wrap ((L.length:Int)+1)=(L.length:Int)+1:=IntWalk.i64_in _ (by omega)
 have hw3:IntKind.i64.wrap ((L.length:Int)+1 - (i:Int))=(L.length:Int)+1 - (i:Int):=IntWalk.i64_in _ (by omega)
 have g1:¬ ((i:Int)=(L.length:Int)):=by omega
 have g2:(0:Int)≤(i:Int)+1:=by omega
 have g3:((i:Int)+1).toNat=i+1:=by omega
 have g4:¬ G=i+1:=by omega
 have g5:¬ c=i:=by omega
 have g6:¬ G=i:=by omega
 have g7:(c:Int) < (L.length:Int)+1:=by omega
 have g8:i≤L.length:=by omega
 have g9:i≤L.length+1:=by omega
 replace hcp1:=qh hcp1
 replace hcp2:=qh hcp2
 replace hcurget:=qh hcurget
 replace hR1:=qh hR1
 replace hR2:=qh hR2
 replace hROW:=qh hROW
 replace hf:=qh hf
 replace h1:=qh h1
 clear hG hkk hik hold hz0 hzs hzb hi0
 go_enter Tryz.func145,Tryz.ntmps145
 go_wp2_with (at_builtin;refine Lib.wpList_append_run _ rfl _ _ _ _ rfl _ _ rfl rfl _ _ (hrz _) ?_)
 have hh0:(w.alloc (.cells ROW 71)).drew.heap[w.heap.size]?=some (.cells ROW 71):=heap_alloc_new w _
 have hv0:∀ j,(w.alloc (.cells ROW 71)).drew.cell? ⟨vb,j,none⟩=w.cell? ⟨vb,j,none⟩:=fun j=>World.cell?_of_block (Below.heap_alloc w _ _ hvl)
 have hg0:∀ j,(w.alloc (.cells ROW 71)).drew.cell? ⟨g,j,none⟩=w.cell? ⟨g,j,none⟩:=fun j=>World.cell?_of_block (Below.heap_alloc w _ _ hgl)
 have hu0:Upd [] w (w.alloc (.cells ROW 71)).drew:=((Upd.refl _ _).alloc _).drew
 rw [hcp2.out _ hh0 hv0]
 simp only [Result.andThen]
 rw [Oper.upon_value]
 have hh1:((w.alloc (.cells ROW 71)).drew.setRow w.heap.size R1).heap[w.heap.size]?=some (.cells R1 71):=setRow_heap _ _ _ _ _ _ hh0
 have hg1:∀ j,((w.alloc (.cells ROW 71)).drew.setRow w.heap.size R1).cell? ⟨g,j,none⟩=w.cell? ⟨g,j,none⟩:=fun j=>(World.cell?_of_block (setRow_other _ _ g R1 (by omega))).trans (hg0 j)
 have hu1:Upd [] w ((w.alloc (.cells ROW 71)).drew.setRow w.heap.size R1):=hu0.setRowNew (Nat.le_refl _) _
 generalize (w.alloc (.cells ROW 71)).drew.setRow w.heap.size R1=W1 at *
 clear hrz hh0 hv0 hg0 hu0
 replace hg1:=qh hg1
 go_wp2_with fail
 have hh2:W1.drew.heap[w.heap.size]?=some (.cells R1 71):=hh1
 have hg2:Hid (∀ j,W1.drew.cell? ⟨g,j,none⟩=w.cell? ⟨g,j,none⟩):=hg1.out
 have hu2:Upd [] w W1.drew:=hu1.drew
 go_region_law (refine step_copy_is rfl _ _ 77 77 rfl (.slice (some ⟨w.heap.size,((i+1)*2),none⟩) (L.length - i) (G - (i+1))) (.slice (some ⟨g,(i*2),none⟩) (L.length - i) (c - i)) (by simp [Act.eval,Act.put]) (by simp [Act.eval,Act.put]) (hcp1.out _ hh2 hg2.out 3 (G - (i+1)) (c - i)) ?_)
 have hh3:(W1.drew.setRow w.heap.size R2).heap[w.heap.size]?=some (.cells R2 71):=setRow_heap _ _ _ _ _ _ hh2
 have hu3:Upd [] w (W1.drew.setRow w.heap.size R2):=hu2.setRowNew (Nat.le_refl _) _
 generalize W1.drew.setRow w.heap.size R2=W3 at *
 go_wp2_with fail
 go_ret
 have hL:(L.insertIdx i x).length=L.length+1:=List.length_insertIdx_of_le_length g8 _
 refine ⟨some ⟨w.heap.size,0,none⟩,G,by simp [hL],?_,hu3.mono (by simp),.inr (by simp [Value.ownBlock])⟩
 refine ⟨hf.out,h1.out,flat_len hf.out _,.inr ⟨w.heap.size,G,R2,by rw [hL],hbase,hh3,by omega,hG63,hs2,?_⟩⟩
 rw [hL,insert_flat L x i g8,hR2.out,hR1.out,hROW.out]
 have hgl2:=grow_lists (R:=ROW.toList) (Fa:=(L.take i).flatMap f) (Fb:=(L.drop i).flatMap f) (X:=f x) (n:=L.length*2) (a1:=(i*2)) (a2:=((i+1)*2)) (k:=2) (by rw [hROW.out];simp only [Array.toList_append,List.append_assoc];rw [List.take_append_of_le_length (by omega),List.take_of_length_le (by omega)]) (by omega) (by omega) hfx (by omega) (by omega)
 rw [show (L.length+1)*2=L.length*2+2 by omega]
 rw [hROW.out] at hgl2
 simpa using hgl2
theorem insert_any (h : Row base 71 2 f w (.slice a L.length c) L) (hv : w.heap[vb]? = some (.cells (f x).toArray 71)) (hbase : base ≤ w.heap.size) (hlen : L.length ≤ 100000) (i : Nat) (hi : i ≤ L.length)
    (hne:∀ b,(Value.slice a L.length c).ownBlock=some b→b≠vb) :
    Calls Tryz.prog 145 #[.slice a L.length c,.int .i64 i,.slice (some ⟨vb,0,none⟩) 1 1] w (InsEnd f base (.slice a L.length c) (L.insertIdx i x) w):=by
 rcases Nat.lt_or_ge i L.length with h1 | h1
 ·rcases Nat.lt_or_ge c (L.length+1) with h2 | h2
  ·exact insert_grow f base a c L x vb w h hv hbase hlen i h1 h2
  ·exact insert_room f base a c L x vb w h hv hlen i h1 h2 hne
 ·obtain rfl:i=L.length:=by omega
  rw [show L.insertIdx L.length x=L++[x] from List.insertIdx_length_self];exact insert_end f base a c L x vb w h hv hbase hlen
end InHd
open Go.RowKit
theorem OwnNode.below {base:Nat} {w w':World} (n:BN) (qka qva qha:Option Addr) (qkc qvc qhc:Nat) (h:OwnNode base w n qka qva qha qkc qvc qhc) (hb:Below w.heap.size w w'):OwnNode base w' n qka qva qha qkc qvc qhc:=⟨h.ky.below hb,h.vl.below hb,h.kd.below hb,h.kv,h.kh,h.vh⟩
theorem OwnNode.rebase {base base':Nat} {w:World} (n:BN) (qka qva qha:Option Addr) (qkc qvc qhc:Nat) (h:OwnNode base w n qka qva qha qkc qvc qhc) (hb:base'≤base):OwnNode base' w n qka qva qha qkc qvc qhc :=
 ⟨h.ky.rebase (fun b hq=>by have:=(h.ky.lt b hq).1;omega),h.vl.rebase (fun b hq=>by have:=(h.vl.lt b hq).1;omega),h.kd.rebase (fun b hq=>by have:=(h.kd.lt b hq).1;omega),h.kv,h.kh,h.vh⟩
section
variable {w0 w w':World} {n1:BN} {qka1 qva1 qha1:Option Addr} {qkc1 qvc1 qhc1:Nat} {n2:BN} {qka2 qva2 qha2:Option Addr} {qkc2 qvc2 qhc2:Nat}
theorem node_stored {qf qbd:Bool} {qka qva qha:Option Addr} {qkl qkc qvl qvc qhl qhc:Nat} {qhi:Str} {qns qng:Int} {q:Nat} (h:w.heap[q]?=some (.cells #[.bool qf,.slice qka qkl qkc,.slice qva qvl qvc,.slice qha qhl qhc,.string qhi,.bool qbd,.int .i64 qns,.int .u64 qng] 98)):((World.setCell (World.setCell (World.setCell (World.setCell (World.setCell (World.setCell (World.setCell (World.setCell w ⟨q,0,none⟩ (.bool n2.leaf)) ⟨q,1,none⟩ (.slice qka2 n2.keys.length qkc2)) ⟨q,2,none⟩ (.slice qva2 n2.vals.length qvc2)) ⟨q,3,none⟩ (.slice qha2 n2.kids.length qhc2)) ⟨q,4,none⟩ (.string n2.high)) ⟨q,5,none⟩ (.bool n2.bnd)) ⟨q,6,none⟩ (.int .i64 n2.next.1)) ⟨q,7,none⟩ (.int .u64 n2.next.2))).heap[q]?=some (.cells #[.bool n2.leaf,.slice qka2 n2.keys.length qkc2,.slice qva2 n2.vals.length qvc2,.slice qha2 n2.kids.length qhc2,.string n2.high,.bool n2.bnd,.int .i64 n2.next.1,.int .u64 n2.next.2] 98)∧Upd [q] w ((World.setCell (World.setCell (World.setCell (World.setCell (World.setCell (World.setCell (World.setCell (World.setCell w ⟨q,0,none⟩ (.bool n2.leaf)) ⟨q,1,none⟩ (.slice qka2 n2.keys.length qkc2)) ⟨q,2,none⟩ (.slice qva2 n2.vals.length qvc2)) ⟨q,3,none⟩ (.slice qha2 n2.kids.length qhc2)) ⟨q,4,none⟩ (.string n2.high)) ⟨q,5,none⟩ (.bool n2.bnd)) ⟨q,6,none⟩ (.int .i64 n2.next.1)) ⟨q,7,none⟩ (.int .u64 n2.next.2))):=by
 refine ⟨?_,?_⟩
 ·have h0:(World.setCell w ⟨q,0,none⟩ (.bool n2.leaf)).heap[q]?=some (.cells #[.bool n2.leaf,.slice qka qkl qkc,.slice qva qvl qvc,.slice qha qhl qhc,.string qhi,.bool qbd,.int .i64 qns,.int .u64 qng] 98):=heap_set_same h 0 _
  have h1:(World.setCell (World.setCell w ⟨q,0,none⟩ (.bool n2.leaf)) ⟨q,1,none⟩ (.slice qka2 n2.keys.length qkc2)).heap[q]?=some (.cells #[.bool n2.leaf,.slice qka2 n2.keys.length qkc2,.slice qva qvl qvc,.slice qha qhl qhc,.string qhi,.bool qbd,.int .i64 qns,.int .u64 qng] 98):=heap_set_same h0 1 _;have h2:(World.setCell (World.setCell (World.setCell w ⟨q,0,none⟩ (.bool n2.leaf)) ⟨q,1,none⟩ (.slice qka2 n2.keys.length qkc2)) ⟨q,2,none⟩ (.slice qva2 n2.vals.length qvc2)).heap[q]?=some (.cells #[.bool n2.leaf,.slice qka2 n2.keys.length qkc2,.slice qva2 n2.vals.length qvc2,.slice qha qhl qhc,.string qhi,.bool qbd,.int .i64 qns,.int .u64 qng] 98):=heap_set_same h1 2 _;have h3:(World.setCell (World.setCell (World.setCell (World.setCell w ⟨q,0,none⟩ (.bool n2.leaf)) ⟨q,1,none⟩ (.slice qka2 n2.keys.length qkc2)) ⟨q,2,none⟩ (.slice qva2 n2.vals.length qvc2)) ⟨q,3,none⟩ (.slice qha2 n2.kids.length qhc2)).heap[q]?=some (.cells #[.bool n2.leaf,.slice qka2 n2.keys.length qkc2,.slice qva2 n2.vals.length qvc2,.slice qha2 n2.kids.length qhc2,.string qhi,.bool qbd,.int .i64 qns,.int .u64 qng] 98):=heap_set_same h2 3 _;have h4:(World.setCell (World.setCell (World.setCell (World.setCell (World.setCell w ⟨q,0,none⟩ (.bool n2.leaf)) ⟨q,1,none⟩ (.slice qka2 n2.keys.length qkc2)) ⟨q,2,none⟩ (.slice qva2 n2.vals.length qvc2)) ⟨q,3,none⟩ (.slice qha2 n2.kids.length qhc2)) ⟨q,4,none⟩ (.string n2.high)).heap[q]?=some (.cells #[.bool n2.leaf,.slice qka2 n2.keys.length qkc2,.slice qva2 n2.vals.length qvc2,.slice qha2 n2.kids.length qhc2,.string n2.high,.bool qbd,.int .i64 qns,.int .u64 qng] 98):=heap_set_same h3 4 _
  have h5:(World.setCell (World.setCell (World.setCell (World.setCell (World.setCell (World.setCell w ⟨q,0,none⟩ (.bool n2.leaf)) ⟨q,1,none⟩ (.slice qka2 n2.keys.length qkc2)) ⟨q,2,none⟩ (.slice qva2 n2.vals.length qvc2)) ⟨q,3,none⟩ (.slice qha2 n2.kids.length qhc2)) ⟨q,4,none⟩ (.string n2.high)) ⟨q,5,none⟩ (.bool n2.bnd)).heap[q]?=some (.cells #[.bool n2.leaf,.slice qka2 n2.keys.length qkc2,.slice qva2 n2.vals.length qvc2,.slice qha2 n2.kids.length qhc2,.string n2.high,.bool n2.bnd,.int .i64 qns,.int .u64 qng] 98):=heap_set_same h4 5 _;have h6:(World.setCell (World.setCell (World.setCell (World.setCell (World.setCell (World.setCell (World.setCell w ⟨q,0,none⟩ (.bool n2.leaf)) ⟨q,1,none⟩ (.slice qka2 n2.keys.length qkc2)) ⟨q,2,none⟩ (.slice qva2 n2.vals.length qvc2)) ⟨q,3,none⟩ (.slice qha2 n2.kids.length qhc2)) ⟨q,4,none⟩ (.string n2.high)) ⟨q,5,none⟩ (.bool n2.bnd)) ⟨q,6,none⟩ (.int .i64 n2.next.1)).heap[q]?=some (.cells #[.bool n2.leaf,.slice qka2 n2.keys.length qkc2,.slice qva2 n2.vals.length qvc2,.slice qha2 n2.kids.length qhc2,.string n2.high,.bool n2.bnd,.int .i64 n2.next.1,.int .u64 qng] 98):=heap_set_same h5 6 _;exact heap_set_same h6 7 _
 ·repeat refine Upd.setCell ?_ (by simp) _
  exact Upd.refl _ _
end
open Go.RowKit
structure PT (w0 w:World) (R:List (Nat×Obj)) (T:Nat) (n2:BN) (qka2 qva2 qha2:Option Addr) (qkc2 qvc2 qhc2:Nat):Prop where
 bel:Below w0.heap.size w0 w
 blk:∀ r,r∈R→w.heap[r.1]?=some r.2
 new:∀ r,r∈R→w0.heap.size≤r.1∧r.1≠T
 bo:w.heap[T]?=some (.cells #[.bool n2.leaf,.slice qka2 n2.keys.length qkc2,.slice qva2 n2.vals.length qvc2,.slice qha2 n2.kids.length qhc2,.string n2.high,.bool n2.bnd,.int .i64 n2.next.1,.int .u64 n2.next.2] 98)
 newT:w0.heap.size≤T
 own:OwnNode w0.heap.size w n2 qka2 qva2 qha2 qkc2 qvc2 qhc2
 sep:∀ b,((Value.slice qka2 n2.keys.length qkc2).ownBlock=some b∨(Value.slice qva2 n2.vals.length qvc2).ownBlock=some b∨(Value.slice qha2 n2.kids.length qhc2).ownBlock=some b)→b≠T∧∀ r,r∈R→b≠r.1
section
variable {w0 w w':World} {R:List (Nat×Obj)} {T:Nat} {n2:BN} {qka2 qva2 qha2:Option Addr} {qkc2 qvc2 qhc2:Nat}
theorem PT.below (h:PT w0 w R T n2 qka2 qva2 qha2 qkc2 qvc2 qhc2) (hb:Below w.heap.size w w'):PT w0 w' R T n2 qka2 qva2 qha2 qkc2 qvc2 qhc2 :=
 ⟨h.bel.trans (hb.mono h.bel.size),fun r hr=>Below.heap' hb (h.blk r hr),h.new,Below.heap' hb h.bo,h.newT,h.own.below n2 qka2 qva2 qha2 qkc2 qvc2 qhc2 hb,h.sep⟩
theorem PT.newKeys (h : PT w0 w R T n2 qka2 qva2 qha2 qkc2 qvc2 qhc2) {W w5 : World} (hW : Below w.heap.size w W) {a : Option Addr} {c : Nat} {L : List Str} (hr : Row w0.heap.size 9 1 scell w5 (.slice a L.length c) L)
    (hu:Upd (Value.slice qka2 n2.keys.length qkc2).ownBlock.toList W w5) (hob:(Value.slice a L.length c).ownBlock=(Value.slice qka2 n2.keys.length qkc2).ownBlock∨(Value.slice a L.length c).ownBlock=some W.heap.size) :
    w5.heap[T]?=some (.cells #[.bool n2.leaf,.slice qka2 n2.keys.length qkc2,.slice qva2 n2.vals.length qvc2,.slice qha2 n2.kids.length qhc2,.string n2.high,.bool n2.bnd,.int .i64 n2.next.1,.int .u64 n2.next.2] 98)∧(∀ r,r∈R→w5.heap[r.1]?=some r.2)∧T < w5.heap.size ∧
     PT w0 (w5.setCell ⟨T,1,none⟩ (.slice a L.length c)) R T { n2 with keys:=L } a qva2 qha2 c qvc2 qhc2:=by
 have h1:=h.below hW
 have hs:∀ b,b∈(Value.slice qka2 n2.keys.length qkc2).ownBlock.toList→w0.heap.size≤b∧b≠T∧∀ r,r∈R→b≠r.1:=fun b hb=>⟨(h.own.ky.lt b (mem_own hb)).1,h.sep b (.inl (mem_own hb))⟩
 have hblk:∀ r,r∈R→w5.heap[r.1]?=some r.2:=fun r hr=>hu.heap (h1.blk r hr) (fun hh=>(hs _ hh).2.2 r hr rfl)
 have hbo:=hu.heap h1.bo (fun hh=>(hs _ hh).2.1 rfl)
 have hv:Upd [T] w5 (w5.setCell ⟨T,1,none⟩ (.slice a L.length c)):=(Upd.refl _ _).setCell (by simp) _
 have hB:Below w0.heap.size w0 w5:=h1.bel.trans (hu.below h1.bel.size (fun b hb=>(hs _ hb).1))
 have hnew:∀ b,(Value.slice a L.length c).ownBlock=some b→(Value.slice qka2 n2.keys.length qkc2).ownBlock=some b∨b=W.heap.size:=fun b hb=>by
  rcases hob with e | e
  ·exact .inl (by rw [← e];exact hb)
  ·rw [e] at hb;injection hb with hb;exact .inr hb.symm
 have hTW:T < W.heap.size:=heap_lt h1.bo
 have hRW:∀ r,r∈R→r.1 < W.heap.size:=fun r hr=>heap_lt (h1.blk r hr)
 have hsn:∀ b,(Value.slice a L.length c).ownBlock=some b→b≠T∧∀ r,r∈R→b≠r.1:=fun b hb=>by
  rcases hnew b hb with h2 | rfl
  ·exact h.sep b (.inl h2)
  ·exact ⟨by omega,fun r hr=>by have:=hRW r hr;omega⟩
 have hk:=h1.own
 have hy:Row w0.heap.size 9 1 scell (w5.setCell ⟨T,1,none⟩ (.slice a L.length c)) (.slice a L.length c) L:=hr.upd hv (fun b hb hh=>by simp at hh;exact (hsn b hb).1 hh)
 refine ⟨hbo,hblk,heap_lt hbo,hB.trans (hv.below hB.size (by simp;exact h.newT)),fun r hr=>hv.heap (hblk r hr) (by simp;exact (h.new r hr).2),h.new,heap_set_same hbo 1 _,h.newT,?_,?_⟩
 ·refine ⟨hy,(hk.vl.upd hu (fun b hb hh=>hk.kv _ _ (mem_own hh) hb rfl)).upd hv (fun b hb hh=>by simp at hh;exact (h.sep b (.inr <| .inl hb)).1 hh),(hk.kd.upd hu (fun b hb hh=>hk.kh _ _ (mem_own hh) hb rfl)).upd hv (fun b hb hh=>by simp at hh;exact (h.sep b (.inr <| .inr hb)).1 hh),fun x y hx hy=>?_,fun x y hx hy=>?_,hk.vh⟩
  ·rcases hnew x hx with h2 | rfl
   ·exact hk.kv x y h2 hy
   ·have:=(hk.vl.lt y hy).2;omega
  ·rcases hnew x hx with h2 | rfl
   ·exact hk.kh x y h2 hy
   ·have:=(hk.kd.lt y hy).2;omega
 ·rintro b (hb | hb | hb)
  ·exact hsn b hb
  ·exact h.sep b (.inr <| .inl hb)
  ·exact h.sep b (.inr <| .inr hb)
theorem PT.newKids (h : PT w0 w R T n2 qka2 qva2 qha2 qkc2 qvc2 qhc2) {W w5 : World} (hW : Below w.heap.size w W) {a : Option Addr} {c : Nat} {L : List Hd} (hr : Row w0.heap.size 71 2 hcel w5 (.slice a L.length c) L)
    (hu:Upd (Value.slice qha2 n2.kids.length qhc2).ownBlock.toList W w5) (hob:(Value.slice a L.length c).ownBlock=(Value.slice qha2 n2.kids.length qhc2).ownBlock∨(Value.slice a L.length c).ownBlock=some W.heap.size) :
    w5.heap[T]?=some (.cells #[.bool n2.leaf,.slice qka2 n2.keys.length qkc2,.slice qva2 n2.vals.length qvc2,.slice qha2 n2.kids.length qhc2,.string n2.high,.bool n2.bnd,.int .i64 n2.next.1,.int .u64 n2.next.2] 98)∧(∀ r,r∈R→w5.heap[r.1]?=some r.2)∧T < w5.heap.size ∧
     PT w0 (w5.setCell ⟨T,3,none⟩ (.slice a L.length c)) R T { n2 with kids:=L } qka2 qva2 a qkc2 qvc2 c:=by
 have h1:=h.below hW
 have hs:∀ b,b∈(Value.slice qha2 n2.kids.length qhc2).ownBlock.toList→w0.heap.size≤b∧b≠T∧∀ r,r∈R→b≠r.1:=fun b hb=>⟨(h.own.kd.lt b (mem_own hb)).1,h.sep b (.inr <| .inr (mem_own hb))⟩
 have hblk:∀ r,r∈R→w5.heap[r.1]?=some r.2:=fun r hr=>hu.heap (h1.blk r hr) (fun hh=>(hs _ hh).2.2 r hr rfl)
 have hbo:=hu.heap h1.bo (fun hh=>(hs _ hh).2.1 rfl)
 have hv:Upd [T] w5 (w5.setCell ⟨T,3,none⟩ (.slice a L.length c)):=(Upd.refl _ _).setCell (by simp) _
 have hB:Below w0.heap.size w0 w5:=h1.bel.trans (hu.below h1.bel.size (fun b hb=>(hs _ hb).1))
 have hnew:∀ b,(Value.slice a L.length c).ownBlock=some b→(Value.slice qha2 n2.kids.length qhc2).ownBlock=some b∨b=W.heap.size:=fun b hb=>by
  rcases hob with e | e
  ·exact .inl (by rw [← e];exact hb)
  ·rw [e] at hb;injection hb with hb;exact .inr hb.symm
 have hTW:T < W.heap.size:=heap_lt h1.bo
 have hRW:∀ r,r∈R→r.1 < W.heap.size:=fun r hr=>heap_lt (h1.blk r hr)
 have hsn:∀ b,(Value.slice a L.length c).ownBlock=some b→b≠T∧∀ r,r∈R→b≠r.1:=fun b hb=>by
  rcases hnew b hb with h2 | rfl
  ·exact h.sep b (.inr <| .inr h2)
  ·exact ⟨by omega,fun r hr=>by have:=hRW r hr;omega⟩
 have hk:=h1.own
 have hy:Row w0.heap.size 71 2 hcel (w5.setCell ⟨T,3,none⟩ (.slice a L.length c)) (.slice a L.length c) L:=hr.upd hv (fun b hb hh=>by simp at hh;exact (hsn b hb).1 hh)
 refine ⟨hbo,hblk,heap_lt hbo,hB.trans (hv.below hB.size (by simp;exact h.newT)),fun r hr=>hv.heap (hblk r hr) (by simp;exact (h.new r hr).2),h.new,heap_set_same hbo 3 _,h.newT,?_,?_⟩
 ·refine ⟨(hk.ky.upd hu (fun b hb hh=>hk.kh _ _ hb (mem_own hh) rfl)).upd hv (fun b hb hh=>by simp at hh;exact (h.sep b (.inl hb)).1 hh),(hk.vl.upd hu (fun b hb hh=>hk.vh _ _ hb (mem_own hh) rfl)).upd hv (fun b hb hh=>by simp at hh;exact (h.sep b (.inr <| .inl hb)).1 hh),hy,hk.kv,fun x y hx hy=>?_,fun x y hx hy=>?_⟩
  ·rcases hnew y hy with h2 | rfl
   ·exact hk.kh x y hx h2
   ·have:=(hk.ky.lt x hx).2;omega
  ·rcases hnew y hy with h2 | rfl
   ·exact hk.vh x y hx h2
   ·have:=(hk.vl.lt x hx).2;omega
 ·rintro b (hb | hb | hb)
  ·exact h.sep b (.inl hb)
  ·exact h.sep b (.inr <| .inl hb)
  ·exact hsn b hb
end
open Go.RowKit
def AEnd (n2:BN) (w:World) (x:Ending) (w':World):Prop:=∃ qka2 qva2 qha2 qkc2 qvc2 qhc2,x=.returned (.agg #[.bool n2.leaf,.slice qka2 n2.keys.length qkc2,.slice qva2 n2.vals.length qvc2,.slice qha2 n2.kids.length qhc2,.string n2.high,.bool n2.bnd,.int .i64 n2.next.1,.int .u64 n2.next.2])∧OwnNode w.heap.size w' n2 qka2 qva2 qha2 qkc2 qvc2 qhc2∧Below w.heap.size w w'
theorem heap_three (w:World) (o o' o'':Obj):(((w.alloc o).alloc o').alloc o'').heap[w.heap.size]?=some o∧(((w.alloc o).alloc o').alloc o'').heap[w.heap.size+1]?=some o'∧(((w.alloc o).alloc o').alloc o'').heap[w.heap.size+2]?=some o'':=by
 obtain ⟨h1,h2⟩:=heap_two w o o'
 refine ⟨heap_alloc_old _ h1,heap_alloc_old _ h2,?_⟩
 have:=heap_alloc_new ((w.alloc o).alloc o') o''
 simpa using this
theorem below_three (w:World) (o o' o'':Obj):Below w.heap.size w (((w.alloc o).alloc o').alloc o''):=(below_two w o o').alloc (by simp;omega) _
set_option maxRecDepth 100000 in
set_option maxHeartbeats 1000000 in
theorem nAdd_ok (n : BN) (qka qva qha : Option Addr) (qkc qvc qhc : Nat) {lo : Str} (key : Str) (h : Hd) (w : World) (ho : NodeOK lo n) (hn : NodeAt w n qka qva qha qkc qvc qhc) (hsm : n.keys.length ≤ 1000) (hl : n.leaf = false) (hc : n.covers key = true) (hno : hasK key n.keys = false) :
    Calls Tryz.prog 116 #[.agg #[.bool n.leaf,.slice qka n.keys.length qkc,.slice qva n.vals.length qvc,.slice qha n.kids.length qhc,.string n.high,.bool n.bnd,.int .i64 n.next.1,.int .u64 n.next.2],.string key,.agg #[.int .i64 h.1,.int .u64 h.2]] w (AEnd (n.add key h) w):=by
 have hvl:=(ho.inn hl).1
 have hkd:=(ho.inn hl).2
 have hC:=qh fun W hW=>nClone_ok n qka qva qha qkc qvc qhc W (hn.below n qka qva qha qkc qvc qhc hW) ⟨by omega,by rw [hvl];simp,by omega⟩
 have hR:=qh fun W hW=>nRight_ok n qka qva qha qkc qvc qhc W ho (hn.below n qka qva qha qkc qvc qhc hW) hsm
 have hV:=qh fun W=>nCovers_any n.leaf qka n.keys.length qkc qva n.vals.length qvc qha n.kids.length qhc n.high n.bnd n.next.1 n.next.2 key W
 rw [show (!n.bnd || slt key n.high)=true from hc] at hV
 have hF:=qh fun W (hW:Below w.heap.size w W)=>nFind_any n.leaf qka n.keys.length qkc qva n.vals.length qvc qha n.kids.length qhc n.high n.bnd n.next.1 n.next.2 n.keys key W (hn.1.below hW) rfl
 rw [hno] at hF
 replace hkd:=qh hkd
 replace hvl:=qh hvl
 clear ho hn hc hno
 obtain ⟨m,hm⟩:∃ m,m=n.add key h:=⟨_,rfl⟩
 rw [← hm]
 replace hm:=qh hm
 obtain ⟨lf,K,V,H,hi,bd,nx⟩:=n
 simp only at hC hR hV hF hl hkd hvl hsm ⊢
 subst hl
 go_enter Tryz.func116,Tryz.ntmps116
 go_wp2_with fail
 obtain ⟨hbx,hbh,hby⟩:=heap_three w (.cells #[.bool false,.slice qka K.length qkc,.slice qva V.length qvc,.slice qha H.length qhc,.string hi,.bool bd,.int .i64 nx.1,.int .u64 nx.2] 98) (.cells #[.int .i64 h.1,.int .u64 h.2] 71) (.cells #[.bool false,.slice none 0 0,.slice none 0 0,.slice none 0 0,.string ⟨#[]⟩,.bool false,.int .i64 0,.int .u64 0] 98)
 have hB:=below_three w (.cells #[.bool false,.slice qka K.length qkc,.slice qva V.length qvc,.slice qha H.length qhc,.string hi,.bool bd,.int .i64 nx.1,.int .u64 nx.2] 98) (.cells #[.int .i64 h.1,.int .u64 h.2] 71) (.cells #[.bool false,.slice none 0 0,.slice none 0 0,.slice none 0 0,.string ⟨#[]⟩,.bool false,.int .i64 0,.int .u64 0] 98)
 have hz:(((w.alloc (.cells #[.bool false,.slice qka K.length qkc,.slice qva V.length qvc,.slice qha H.length qhc,.string hi,.bool bd,.int .i64 nx.1,.int .u64 nx.2] 98)).alloc (.cells #[.int .i64 h.1,.int .u64 h.2] 71)).alloc (.cells #[.bool false,.slice none 0 0,.slice none 0 0,.slice none 0 0,.string ⟨#[]⟩,.bool false,.int .i64 0,.int .u64 0] 98)).heap.size=w.heap.size+3:=by simp
 generalize ((w.alloc (.cells #[.bool false,.slice qka K.length qkc,.slice qva V.length qvc,.slice qha H.length qhc,.string hi,.bool bd,.int .i64 nx.1,.int .u64 nx.2] 98)).alloc (.cells #[.int .i64 h.1,.int .u64 h.2] 71)).alloc (.cells #[.bool false,.slice none 0 0,.slice none 0 0,.slice none 0 0,.string ⟨#[]⟩,.bool false,.int .i64 0,.int .u64 0] 98)=W0 at *
 refine (hC.out _ hB).mono ?_
 clear hC
 rintro e w1 ⟨qka2,qva2,qha2,qkc2,qvc2,qhc2,rfl,hown,hb1⟩
 rw [hz] at hown
 replace hbx:=Below.heap' hb1 hbx
 replace hbh:=Below.heap' hb1 hbh
 replace hby:=Below.heap' hb1 hby
 have hB1:=hB.trans (hb1.mono hB.size)
 have hs1:w.heap.size+2 < w1.heap.size:=heap_lt hby
 replace hbx:=qh hbx
 replace hbh:=qh hbh
 replace hby:=qh hby
 replace hown:=qh hown
 replace hB1:=qh hB1
 clear hb1 hB hz
 obtain ⟨c0,c1,c2,c3,c4,c5,c6,c7⟩:=node_cells _ _ _ _ _ _ _ _ _ _ _ _ _ _ hbx.out
 have hq0:w.heap.size < w1.heap.size:=by omega
 go_wp2_with fail
 have hPT:PT w (w1.alloc (.cells #[.bool false,.slice qka2 K.length qkc2,.slice qva2 V.length qvc2,.slice qha2 H.length qhc2,.string hi,.bool bd,.int .i64 nx.1,.int .u64 nx.2] 98)) [(w.heap.size,.cells #[.bool false,.slice qka K.length qkc,.slice qva V.length qvc,.slice qha H.length qhc,.string hi,.bool bd,.int .i64 nx.1,.int .u64 nx.2] 98),(w.heap.size+1,.cells #[.int .i64 h.1,.int .u64 h.2] 71),(w.heap.size+1+1,.cells #[.bool false,.slice none 0 0,.slice none 0 0,.slice none 0 0,.string ⟨#[]⟩,.bool false,.int .i64 0,.int .u64 0] 98)] w1.heap.size ⟨false,K,V,H,hi,bd,nx⟩ qka2 qva2 qha2 qkc2 qvc2 qhc2:=by
  have hA:Below w1.heap.size w1 (w1.alloc (.cells #[.bool false,.slice qka2 K.length qkc2,.slice qva2 V.length qvc2,.slice qha2 H.length qhc2,.string hi,.bool bd,.int .i64 nx.1,.int .u64 nx.2] 98)):=(Below.refl _ _).alloc (Nat.le_refl _) _;refine ⟨hB1.out.trans (hA.mono hB1.out.size),fun r hr=>?_,fun r hr=>?_,heap_alloc_new _ _,by omega,(hown.out.below ⟨false,K,V,H,hi,bd,nx⟩ qka2 qva2 qha2 qkc2 qvc2 qhc2 hA).rebase ⟨false,K,V,H,hi,bd,nx⟩ qka2 qva2 qha2 qkc2 qvc2 qhc2 (by omega),fun b hb=>?_⟩
  ·simp only [List.mem_cons,List.not_mem_nil,or_false] at hr
   rcases hr with rfl | rfl | rfl
   ·exact Below.heap' hA hbx.out
   ·exact Below.heap' hA hbh.out
   ·exact Below.heap' hA hby.out
  ·simp only [List.mem_cons,List.not_mem_nil,or_false] at hr
   rcases hr with rfl | rfl | rfl
   ·exact ⟨Nat.le_refl _,by show w.heap.size≠_;omega⟩
   ·exact ⟨by show _≤w.heap.size+1;omega,by show w.heap.size+1≠_;omega⟩
   ·exact ⟨by show _≤w.heap.size+1+1;omega,by show w.heap.size+1+1≠_;omega⟩
  ·have hbb : w.heap.size + 3 ≤ b ∧ b < w1.heap.size := by
     rcases hb with hb | hb | hb
     ·exact hown.out.ky.lt b hb
     ·exact hown.out.vl.lt b hb
     ·exact hown.out.kd.lt b hb
   refine ⟨by omega,fun r hr=>?_⟩;simp only [List.mem_cons,List.not_mem_nil,or_false] at hr;rcases hr with rfl | rfl | rfl
   ·show b≠w.heap.size;omega
   ·show b≠w.heap.size+1;omega
   ·show b≠w.heap.size+1+1;omega
 generalize w1.alloc (.cells #[.bool false,.slice qka2 K.length qkc2,.slice qva2 V.length qvc2,.slice qha2 H.length qhc2,.string hi,.bool bd,.int .i64 nx.1,.int .u64 nx.2] 98)=W2 at *
 generalize w1.heap.size=T at *
 clear c0 c1 c2 c3 c4 c5 c6 c7 hbx hbh hby hown hB1 hq0
 refine (hF.out _ hPT.bel).mono ?_
 clear hF
 rintro e w3 ⟨rfl,hb3⟩
 have hPT3:=hPT.below hb3
 clear hPT hb3
 have hbx3:=hPT3.blk _ (by simp:(w.heap.size,Obj.cells #[.bool false,.slice qka K.length qkc,.slice qva V.length qvc,.slice qha H.length qhc,.string hi,.bool bd,.int .i64 nx.1,.int .u64 nx.2] 98)∈_)
 obtain ⟨c0,c1,c2,c3,c4,c5,c6,c7⟩:=node_cells _ _ _ _ _ _ _ _ _ _ _ _ _ _ hbx3
 have hq3:=heap_lt hbx3
 replace hPT3:=qh hPT3
 clear hbx3
 go_wp2_with fail
 refine (hR.out _ hPT3.out.bel).mono ?_
 clear hR
 rintro e w4 ⟨rfl,hb4⟩
 have hPT4:=hPT3.out.below hb4
 clear hPT3 hb4 c0 c1 c2 c3 c4 c5 c6 c7 hq3
 have hbx4:=hPT4.blk _ (by simp:(w.heap.size,Obj.cells #[.bool false,.slice qka K.length qkc,.slice qva V.length qvc,.slice qha H.length qhc,.string hi,.bool bd,.int .i64 nx.1,.int .u64 nx.2] 98)∈_)
 obtain ⟨c0,c1,c2,c3,c4,c5,c6,c7⟩:=node_cells _ _ _ _ _ _ _ _ _ _ _ _ _ _ hbx4
 have hq4:=heap_lt hbx4
 replace hPT4:=qh hPT4
 clear hbx4
 go_wp2_with fail
 refine (hV.out _).mono ?_
 clear hV
 rintro e w5 ⟨rfl,hb5⟩
 have hPT5:=hPT4.out.below hb5
 clear hPT4 hb5 c0 c1 c2 c3 c4 c5 c6 c7 hq4
 obtain ⟨d0,d1,d2,d3,d4,d5,d6,d7⟩:=node_cells _ _ _ _ _ _ _ _ _ _ _ _ _ _ hPT5.bo
 have hq5:=heap_lt hPT5.bo
 replace hPT5:=qh hPT5
 have hm':m=⟨false,K.insertIdx (cut key K) key,V,H.insertIdx (cut key K+1) h,hi,bd,nx⟩:=hm.out
 replace hm':=qh hm'
 have hcl:=cut_le key K
 clear hm
 generalize cut key K=ix at *
 have hixH:ix+1≤H.length:=by rw [hkd.out];omega
 have hw1:IntKind.i64.wrap ((ix:Int)+1)=(ix:Int)+1:=IntWalk.i64_in _ (by omega)
 go_wp2_with fail
 have hA1:Below w5.heap.size w5 (w5.alloc (.cells #[.string key] 9)):=(Below.refl _ _).alloc (Nat.le_refl _) _
 have hn1:=heap_alloc_new w5 (.cells #[.string key] 9)
 have hbs:=hPT5.out.bel.size
 refine (InStr.insert_any scell w.heap.size qka2 qkc2 K key w5.heap.size _ (hPT5.out.own.ky.below hA1) hn1 (by simp;omega) (by omega) ix hcl (fun b hb=>by have:=(hPT5.out.own.ky.lt b hb).2;omega)).mono ?_
 rintro e w6 ⟨a1,c1,rfl,hr6,hu6,ho6⟩
 obtain ⟨e1,e2,e3,hPT7⟩:=hPT5.out.newKeys hA1 hr6 hu6 ho6
 clear hPT5 hA1 hn1 hr6 hu6 ho6 d0 d1 d2 d3 d4 d5 d6 d7 hbs hq5
 obtain ⟨d0,d1,d2,d3,d4,d5,d6,d7⟩:=node_cells _ _ _ _ _ _ _ _ _ _ _ _ _ _ e1
 have e4:=e2 _ (by simp:(w.heap.size+1,Obj.cells #[.int .i64 h.1,.int .u64 h.2] 71)∈_)
 have hT1:T≠w.heap.size+1:=fun hh=>(hPT7.new _ (by simp:(w.heap.size+1,Obj.cells #[.int .i64 h.1,.int .u64 h.2] 71)∈_)).2 hh.symm
 have f0:w6.frozen? ⟨T,1,none⟩=false:=frozen_of_heap e1 _
 have k0:w6.cell? ⟨w.heap.size+1,0,none⟩=some (.int .i64 h.1):=by rw [cell_of_heap e4];rfl
 have k1:w6.cell? ⟨w.heap.size+1,1,none⟩=some (.int .u64 h.2):=by rw [cell_of_heap e4];rfl
 have hq6:w.heap.size+1 < w6.heap.size:=heap_lt e4
 replace hPT7:=qh hPT7
 replace e1:=qh e1
 replace e2:=qh e2
 replace e4:=qh e4
 go_wp2_with fail
 obtain ⟨w7,hw7⟩:∃ w7,w7=w6.setCell ⟨T,1,none⟩ (.slice a1 (K.insertIdx ix key).length c1):=⟨_,rfl⟩
 rw [← hw7]
 rw [← hw7] at hPT7
 have hsz7:w7.heap.size=w6.heap.size:=by rw [hw7];simp [World.setCell]
 rw [← hsz7]
 have hA1:Below w7.heap.size w7 (w7.alloc (.cells #[.int .i64 h.1,.int .u64 h.2] 71)):=(Below.refl _ _).alloc (Nat.le_refl _) _
 have hn1:=heap_alloc_new w7 (.cells #[.int .i64 h.1,.int .u64 h.2] 71)
 have hbs:=hPT7.out.bel.size
 rw [show (ix:Int)+1=((ix+1:Nat):Int) by omega]
 refine (InHd.insert_any hcel w.heap.size qha2 qhc2 H h w7.heap.size _ (hPT7.out.own.kd.below hA1) hn1 (by simp;omega) (by have:=hkd.out;omega) (ix+1) hixH (fun b hb=>by have:=(hPT7.out.own.kd.lt b hb).2;omega)).mono ?_
 rintro e w8 ⟨a2,c2,rfl,hr8,hu8,ho8⟩
 obtain ⟨g1,g2,g3,hPT9⟩:=hPT7.out.newKids hA1 hr8 hu8 ho8
 clear hPT7 hA1 hn1 hr8 hu8 ho8 d0 d1 d2 d3 d4 d5 d6 d7 hw7 hsz7 hbs e1 e2 e3 e4 f0 k0 k1 hq6
 obtain ⟨d0,d1,d2,d3,d4,d5,d6,d7⟩:=node_cells _ _ _ _ _ _ _ _ _ _ _ _ _ _ g1
 have g4:=g2 _ (by simp:(w.heap.size+1+1,Obj.cells #[.bool false,.slice none 0 0,.slice none 0 0,.slice none 0 0,.string ⟨#[]⟩,.bool false,.int .i64 0,.int .u64 0] 98)∈_)
 obtain ⟨x0,x1,x2,x3,x4,x5,x6,x7⟩:=node_cells false none 0 0 none 0 0 none 0 0 ⟨#[]⟩ false 0 0 g4
 have hT2:T≠w.heap.size+1+1:=fun hh=>(hPT9.new _ (by simp:(w.heap.size+1+1,Obj.cells #[.bool false,.slice none 0 0,.slice none 0 0,.slice none 0 0,.string ⟨#[]⟩,.bool false,.int .i64 0,.int .u64 0] 98)∈_)).2 hh.symm
 have f0:w8.frozen? ⟨T,3,none⟩=false:=frozen_of_heap g1 _
 have y:=fun k=>frozen_of_heap g4 k
 obtain ⟨y0,y1,y2,y3,y4,y5,y6,y7⟩:=And.intro (y 0) (And.intro (y 1) (And.intro (y 2) (And.intro (y 3) (And.intro (y 4) (And.intro (y 5) (And.intro (y 6) (y 7)))))))
 have hq8:w.heap.size+1+1 < w8.heap.size:=heap_lt g4
 have hsl:T=w.heap.size+1+1↔False:=by simp [hT2]
 clear y
 replace hPT9:=qh hPT9
 replace g1:=qh g1
 replace g2:=qh g2
 replace g4:=qh g4
 go_wp2_with fail
 refine bodyPost_ret (v:=.agg #[.bool false,.slice a1 (K.insertIdx ix key).length c1,.slice qva2 V.length qvc2,.slice a2 (H.insertIdx (ix+1) h).length c2,.string hi,.bool bd,.int .i64 nx.1,.int .u64 nx.2]) (by simp [results,Tryz.results116,go_sem,x0,x1,x2,x3,x4,x5,x6,x7]) rfl ?_
 have hfin:∀ W',Upd [w.heap.size+1+1] (w8.setCell ⟨T,3,none⟩ (.slice a2 (H.insertIdx (ix+1) h).length c2)) W'→AEnd m w (.returned (.agg #[.bool false,.slice a1 (K.insertIdx ix key).length c1,.slice qva2 V.length qvc2,.slice a2 (H.insertIdx (ix+1) h).length c2,.string hi,.bool bd,.int .i64 nx.1,.int .u64 nx.2])) W':=fun W' hu=>by
  rw [hm'.out];have hs2:=hPT9.out.sep;have hin:(w.heap.size+1+1,Obj.cells #[.bool false,.slice none 0 0,.slice none 0 0,.slice none 0 0,.string ⟨#[]⟩,.bool false,.int .i64 0,.int .u64 0] 98)∈[(w.heap.size,Obj.cells #[.bool false,.slice qka K.length qkc,.slice qva V.length qvc,.slice qha H.length qhc,.string hi,.bool bd,.int .i64 nx.1,.int .u64 nx.2] 98),(w.heap.size+1,Obj.cells #[.int .i64 h.1,.int .u64 h.2] 71),(w.heap.size+1+1,Obj.cells #[.bool false,.slice none 0 0,.slice none 0 0,.slice none 0 0,.string ⟨#[]⟩,.bool false,.int .i64 0,.int .u64 0] 98)]:=by simp
  have hB9:=hPT9.out.bel;refine ⟨a1,qva2,a2,c1,qvc2,c2,rfl,⟨hPT9.out.own.ky.upd hu (fun b hb hh=>(hs2 b (.inl hb)).2 _ hin (by simpa using hh)),hPT9.out.own.vl.upd hu (fun b hb hh=>(hs2 b (.inr <| .inl hb)).2 _ hin (by simpa using hh)),hPT9.out.own.kd.upd hu (fun b hb hh=>(hs2 b (.inr <| .inr hb)).2 _ hin (by simpa using hh)),hPT9.out.own.kv,hPT9.out.own.kh,hPT9.out.own.vh⟩,hB9.trans (hu.below hB9.size (by simp;omega))⟩
 refine hfin _ ?_
 iterate 8 refine Upd.setCell ?_ (by simp) _
 exact Upd.refl _ _
open Go.RowKit
def setO (i:Nat) (v:Value):Obj→Obj
 | .cells c t fr=>.cells (c.setIfInBounds i v) t fr
 | o=>o
theorem heap_self {w:World} {b i:Nat} {v:Value}:(w.setCell ⟨b,i,none⟩ v).heap[b]?=(w.heap[b]?).map (setO i v):=by
 cases h:w.heap[b]? with
 | none =>
  simp [World.setCell,Array.getElem?_modify,h]
 | some o =>
  cases o with
  | cells c t fr=>rw [heap_set_same h];rfl
  | _=>simp [World.setCell,Array.getElem?_modify,h,setO]
theorem at_tail {α:Type} {w:World} {k:Nat} {f:α→List Value} {b o c:Nat} {L:List α} (h:At w k f (some ⟨b,o,none⟩) c L) (i:Nat) (hi:i≤L.length):At w k f (some ⟨b,o+i*k,none⟩) (c - i) (L.drop i):=by
 obtain ⟨h1,h2,h3⟩:=h
 refine ⟨by rw [List.length_drop];omega,by omega,.inr ⟨b,o+i*k,rfl,fun hn=>?_,fun j x hx q y hy=>?_⟩⟩
 ·rcases h3 with ⟨h3,_⟩ | ⟨b',o',e,h4,h5⟩
  ·cases h3
  ·injection e with e;injection e with e1 e2;subst e1
   exact h4 (by intro e;rw [e] at hn;simp at hn)
 ·rcases h3 with ⟨h3,_⟩ | ⟨b',o',e,h4,h5⟩
  ·cases h3
  ·injection e with e;injection e with e1 e2;subst e1 e2
   rw [List.getElem?_drop] at hx;have:=h5 _ x hx q y hy
   rwa [Nat.add_mul,← Nat.add_assoc] at this
theorem at_head {α:Type} {w:World} {k:Nat} {f:α→List Value} {b o c:Nat} {L:List α} (h:At w k f (some ⟨b,o,none⟩) c L) (i:Nat) (hi:i≤L.length):At w k f (some ⟨b,o,none⟩) i (L.take i):=by
 obtain ⟨h1,h2,h3⟩:=h
 refine ⟨by rw [List.length_take];omega,by omega,.inr ?_⟩
 rcases h3 with ⟨h3,_⟩ | ⟨b',o',e,h4,h5⟩
 ·cases h3
 ·refine ⟨b',o',e,fun hn=>h4 (by intro e;rw [e] at hn;simp at hn),fun j x hx q y hy=>h5 j x ?_ q y hy⟩
  rw [List.getElem?_take] at hx;split at hx
  ·exact hx
  ·cases hx
def Fresh (base:Nat) (a:Option Addr):Prop:=∀ x,a=some x→base≤x.block
def FreshN (base:Nat) (qka qva qha:Option Addr):Prop:=Fresh base qka∧Fresh base qva∧Fresh base qha
theorem OwnNode.fresh {base:Nat} {w:World} (n:BN) (qka qva qha:Option Addr) (qkc qvc qhc:Nat) (h:OwnNode base w n qka qva qha qkc qvc qhc):FreshN base qka qva qha:=by
 have key:∀ {α:Type} {e:TypeId} {k:Nat} {f:α→List Value} {a:Option Addr} {c:Nat} {L:List α},Row base e k f w (.slice a L.length c) L→Fresh base a:=by
  intro α e k f a c L hr x hx;rcases hr.cases with ⟨h1,_⟩ | ⟨b,cap,h1,h2,_⟩
  ·injection h1 with h1;rw [h1] at hx;cases hx
  ·injection h1 with h1;rw [h1] at hx;injection hx with hx;rw [← hx];exact h2
 exact ⟨key h.ky,key h.vl,key h.kd⟩
def SEnd (n:BN) (nx:Hd) (w:World) (x:Ending) (w':World):Prop :=
 ∃ qka2 qva2 qha2 qkc2 qvc2 qhc2,∃ qka3 qva3 qha3 qkc3 qvc3 qhc3,∃ n2 n3:BN,n2=n.left nx∧n3=n.rightHalf∧x=.returned (.tuple #[.agg #[.bool n2.leaf,.slice qka2 n2.keys.length qkc2,.slice qva2 n2.vals.length qvc2,.slice qha2 n2.kids.length qhc2,.string n2.high,.bool n2.bnd,.int .i64 n2.next.1,.int .u64 n2.next.2],.agg #[.bool n3.leaf,.slice qka3 n3.keys.length qkc3,.slice qva3 n3.vals.length qvc3,.slice qha3 n3.kids.length qhc3,.string n3.high,.bool n3.bnd,.int .i64 n3.next.1,.int .u64 n3.next.2],.string n.sep])∧NodeAt w' n2 qka2 qva2 qha2 qkc2 qvc2 qhc2∧NodeAt w' n3 qka3 qva3 qha3 qkc3 qvc3 qhc3∧FreshN w.heap.size qka2 qva2 qha2∧FreshN w.heap.size qka3 qva3 qha3∧Below w.heap.size w w'
theorem At.upd {α:Type} {w w':World} {k base:Nat} {f:α→List Value} {a:Option Addr} {c:Nat} {L:List α} {S:List Nat} (h:At w k f a c L) (hu:Upd S w w') (hf:Fresh base a) (hS:∀ b,b∈S→b < base):At w' k f a c L:=by
 obtain ⟨h1,h2,h3⟩:=h
 refine ⟨h1,h2,?_⟩
 rcases h3 with h3 | ⟨b,o,e,h4,h5⟩
 ·exact .inl h3
 ·refine .inr ⟨b,o,e,fun hn=>Nat.lt_of_lt_of_le (h4 hn) hu.size,fun i x hx j y hy=>hu.cell (h5 i x hx j y hy) (fun hh=>?_)⟩
  have h6:base≤b:=hf _ e;have h7:b < base:=hS _ hh;omega
theorem NodeAt.upd {w w':World} {base:Nat} {S:List Nat} (n:BN) (qka qva qha:Option Addr) (qkc qvc qhc:Nat) (h:NodeAt w n qka qva qha qkc qvc qhc) (hu:Upd S w w') (hf:FreshN base qka qva qha) (hS:∀ b,b∈S→b < base):NodeAt w' n qka qva qha qkc qvc qhc :=
 ⟨h.1.upd hu hf.1 hS,h.2.1.upd hu hf.2.1 hS,h.2.2.upd hu hf.2.2 hS⟩
theorem Fresh.mono {b b':Nat} {a:Option Addr} (h:Fresh b a) (hb:b'≤b):Fresh b' a:=fun x hx=>Nat.le_trans hb (h x hx)
theorem FreshN.mono {b b':Nat} {x y z:Option Addr} (h:FreshN b x y z) (hb:b'≤b):FreshN b' x y z:=⟨h.1.mono hb,h.2.1.mono hb,h.2.2.mono hb⟩
theorem Fresh.off {b x o o':Nat} (h:Fresh b (some ⟨x,o,none⟩)):Fresh b (some ⟨x,o',none⟩):=fun y hy=>by
 injection hy with hy
 rw [← hy]
 exact h ⟨x,o,none⟩ rfl
theorem heap_four (w:World) (o o' o'' o''':Obj):((((w.alloc o).alloc o').alloc o'').alloc o''').heap[w.heap.size]?=some o∧((((w.alloc o).alloc o').alloc o'').alloc o''').heap[w.heap.size+1]?=some o'∧((((w.alloc o).alloc o').alloc o'').alloc o''').heap[w.heap.size+1+1]?=some o''∧((((w.alloc o).alloc o').alloc o'').alloc o''').heap[w.heap.size+1+1+1]?=some o''':=by
 obtain ⟨h1,h2,h3⟩:=heap_three w o o' o''
 refine ⟨heap_alloc_old _ h1,heap_alloc_old _ h2,heap_alloc_old _ h3,?_⟩
 have:=heap_alloc_new (((w.alloc o).alloc o').alloc o'') o'''
 simpa using this
theorem below_four (w:World) (o o' o'' o''':Obj):Below w.heap.size w ((((w.alloc o).alloc o').alloc o'').alloc o'''):=(below_three w o o' o'').alloc (by simp;omega) _
structure SW (w0 w:World) (n:BN) (nx:Hd) (n1:BN) (qka1 qva1 qha1:Option Addr) (qkc1 qvc1 qhc1:Nat) (n2:BN) (qka2 qva2 qha2:Option Addr) (qkc2 qvc2 qhc2:Nat) (n3:BN) (qka3 qva3 qha3:Option Addr) (qkc3 qvc3 qhc3:Nat):Prop where
 bel:Below w0.heap.size w0 w
 bx:w.heap[w0.heap.size]?=some (.cells #[.bool n1.leaf,.slice qka1 n1.keys.length qkc1,.slice qva1 n1.vals.length qvc1,.slice qha1 n1.kids.length qhc1,.string n1.high,.bool n1.bnd,.int .i64 n1.next.1,.int .u64 n1.next.2] 98)
 bh:w.heap[w0.heap.size+1]?=some (.cells #[.int .i64 nx.1,.int .u64 nx.2] 71)
 bl:w.heap[w0.heap.size+1+1]?=some (.cells #[.bool n2.leaf,.slice qka2 n2.keys.length qkc2,.slice qva2 n2.vals.length qvc2,.slice qha2 n2.kids.length qhc2,.string n2.high,.bool n2.bnd,.int .i64 n2.next.1,.int .u64 n2.next.2] 98)
 br:w.heap[w0.heap.size+1+1+1]?=some (.cells #[.bool n3.leaf,.slice qka3 n3.keys.length qkc3,.slice qva3 n3.vals.length qvc3,.slice qha3 n3.kids.length qhc3,.string n3.high,.bool n3.bnd,.int .i64 n3.next.1,.int .u64 n3.next.2] 98)
 n1:NodeAt w n1 qka1 qva1 qha1 qkc1 qvc1 qhc1
 n2:NodeAt w n2 qka2 qva2 qha2 qkc2 qvc2 qhc2
 n3:NodeAt w n3 qka3 qva3 qha3 qkc3 qvc3 qhc3
 f2:FreshN (w0.heap.size+4) qka2 qva2 qha2
 f3:FreshN (w0.heap.size+4) qka3 qva3 qha3
open Go.RowKit
set_option maxRecDepth 100000 in
set_option maxHeartbeats 1000000 in
theorem nSplit_inner (n : BN) (qka qva qha : Option Addr) (qkc qvc qhc : Nat) {lo : Str} (h : Hd) (w : World) (ho : NodeOK lo n) (hn : NodeAt w n qka qva qha qkc qvc qhc) (hsm : n.keys.length ≤ 1000) (hl : n.leaf = false) (h2 : 3 ≤ n.keys.length) :
    Calls Tryz.prog 124 #[.agg #[.bool n.leaf,.slice qka n.keys.length qkc,.slice qva n.vals.length qvc,.slice qha n.kids.length qhc,.string n.high,.bool n.bnd,.int .i64 n.next.1,.int .u64 n.next.2],.agg #[.int .i64 h.1,.int .u64 h.2]] w (SEnd n h w):=by
 have hvl:=(ho.inn hl).1
 have hkd:=(ho.inn hl).2
 have hC:=qh fun W hW=>nClone_ok n qka qva qha qkc qvc qhc W (hn.below n qka qva qha qkc qvc qhc hW) ⟨by omega,by rw [hvl];simp,by omega⟩
 have hR:=qh fun W hW=>nRight_ok n qka qva qha qkc qvc qhc W ho (hn.below n qka qva qha qkc qvc qhc hW) hsm
 have hN:=qh fun W hW=>hn.below (w':=W) n qka qva qha qkc qvc qhc hW
 have hsep:=sep_at (n:=n) (by omega)
 obtain ⟨nl,hnl⟩:∃ nl,nl=n.left h:=⟨_,rfl⟩
 obtain ⟨nr,hnr⟩:∃ nr,nr=n.rightHalf:=⟨_,rfl⟩
 obtain ⟨sp,hsp⟩:∃ sp,sp=n.sep:=⟨_,rfl⟩
 have hend:Hid (∀ (e:Ending) (W:World),(∃ qka2 qva2 qha2 qkc2 qvc2 qhc2,∃ qka3 qva3 qha3 qkc3 qvc3 qhc3,e=.returned (.tuple #[.agg #[.bool nl.leaf,.slice qka2 nl.keys.length qkc2,.slice qva2 nl.vals.length qvc2,.slice qha2 nl.kids.length qhc2,.string nl.high,.bool nl.bnd,.int .i64 nl.next.1,.int .u64 nl.next.2],.agg #[.bool nr.leaf,.slice qka3 nr.keys.length qkc3,.slice qva3 nr.vals.length qvc3,.slice qha3 nr.kids.length qhc3,.string nr.high,.bool nr.bnd,.int .i64 nr.next.1,.int .u64 nr.next.2],.string sp])∧NodeAt W nl qka2 qva2 qha2 qkc2 qvc2 qhc2∧NodeAt W nr qka3 qva3 qha3 qkc3 qvc3 qhc3∧FreshN w.heap.size qka2 qva2 qha2∧FreshN w.heap.size qka3 qva3 qha3∧Below w.heap.size w W)→SEnd n h w e W):=qh (by
  rintro e W ⟨qka2,qva2,qha2,qkc2,qvc2,qhc2,qka3,qva3,qha3,qkc3,qvc3,qhc3,h1,h2,h3,h4,h5,h6⟩;rw [hsp] at h1
  exact ⟨qka2,qva2,qha2,qkc2,qvc2,qhc2,qka3,qva3,qha3,qkc3,qvc3,qhc3,nl,nr,hnl,hnr,h1,h2,h3,h4,h5,h6⟩)
 rw [← hsp] at hsep
 have hm:n.mid=n.keys.length / 2:=rfl
 clear ho hn
 obtain ⟨lf,K,V,H,hi,bd,nx⟩:=n
 simp only at hC hR hN hl hkd hvl hsm hsep h2 hm ⊢
 subst hl
 replace hkd:=qh hkd
 replace hvl:=qh hvl
 replace hsp:=qh hsp
 obtain ⟨M,hM⟩:∃ M,M=K.length / 2:=⟨_,rfl⟩
 have hdq:(K.length:Int).tdiv 2=(M:Int):=by rw [Int.tdiv_eq_ediv_of_nonneg (by omega)];omega
 have hdv:(K.length:Int) / 2=(M:Int):=by omega
 replace hnl:nl=⟨false,K.take M,V,H.take (M+1),sp,true,h⟩:=by rw [hnl,hsp.out,hM];rfl
 replace hnr:nr=⟨false,K.drop (M+1),V,H.drop (M+1),hi,bd,nx⟩:=by rw [hnr,hM];rfl
 replace hnl:=qh hnl
 replace hnr:=qh hnr
 rw [hm,← hM] at hsep
 clear hm
 have hmlt:M < K.length:=by omega
 have hm0:0 < M:=by omega
 replace hM:=qh hM
 go_enter Tryz.func124,Tryz.ntmps124
 go_wp2_with fail
 obtain ⟨hbx,hbh,hbl,hbr⟩:=heap_four w (.cells #[.bool false,.slice qka K.length qkc,.slice qva V.length qvc,.slice qha H.length qhc,.string hi,.bool bd,.int .i64 nx.1,.int .u64 nx.2] 98) (.cells #[.int .i64 h.1,.int .u64 h.2] 71) (.cells #[.bool false,.slice none 0 0,.slice none 0 0,.slice none 0 0,.string ⟨#[]⟩,.bool false,.int .i64 0,.int .u64 0] 98) (.cells #[.bool false,.slice none 0 0,.slice none 0 0,.slice none 0 0,.string ⟨#[]⟩,.bool false,.int .i64 0,.int .u64 0] 98)
 have hB:=below_four w (.cells #[.bool false,.slice qka K.length qkc,.slice qva V.length qvc,.slice qha H.length qhc,.string hi,.bool bd,.int .i64 nx.1,.int .u64 nx.2] 98) (.cells #[.int .i64 h.1,.int .u64 h.2] 71) (.cells #[.bool false,.slice none 0 0,.slice none 0 0,.slice none 0 0,.string ⟨#[]⟩,.bool false,.int .i64 0,.int .u64 0] 98) (.cells #[.bool false,.slice none 0 0,.slice none 0 0,.slice none 0 0,.string ⟨#[]⟩,.bool false,.int .i64 0,.int .u64 0] 98)
 have hz:((((w.alloc (.cells #[.bool false,.slice qka K.length qkc,.slice qva V.length qvc,.slice qha H.length qhc,.string hi,.bool bd,.int .i64 nx.1,.int .u64 nx.2] 98)).alloc (.cells #[.int .i64 h.1,.int .u64 h.2] 71)).alloc (.cells #[.bool false,.slice none 0 0,.slice none 0 0,.slice none 0 0,.string ⟨#[]⟩,.bool false,.int .i64 0,.int .u64 0] 98)).alloc (.cells #[.bool false,.slice none 0 0,.slice none 0 0,.slice none 0 0,.string ⟨#[]⟩,.bool false,.int .i64 0,.int .u64 0] 98)).heap.size=w.heap.size+4:=by simp
 generalize (((w.alloc (.cells #[.bool false,.slice qka K.length qkc,.slice qva V.length qvc,.slice qha H.length qhc,.string hi,.bool bd,.int .i64 nx.1,.int .u64 nx.2] 98)).alloc (.cells #[.int .i64 h.1,.int .u64 h.2] 71)).alloc (.cells #[.bool false,.slice none 0 0,.slice none 0 0,.slice none 0 0,.string ⟨#[]⟩,.bool false,.int .i64 0,.int .u64 0] 98)).alloc (.cells #[.bool false,.slice none 0 0,.slice none 0 0,.slice none 0 0,.string ⟨#[]⟩,.bool false,.int .i64 0,.int .u64 0] 98)=W0 at *
 refine (hC.out _ hB).mono ?_
 rintro e w1 ⟨qka2,qva2,qha2,qkc2,qvc2,qhc2,rfl,hown,hb1⟩
 rw [hz] at hown
 replace hbx:=Below.heap' hb1 hbx
 replace hbh:=Below.heap' hb1 hbh
 replace hbl:=Below.heap' hb1 hbl
 replace hbr:=Below.heap' hb1 hbr
 have hB1:=hB.trans (hb1.mono hB.size)
 have hq1:w.heap.size+1+1+1 < w1.heap.size:=heap_lt hbr
 have hf2:=hown.fresh
 have hn2:=hown.at
 have y:=fun k=>frozen_of_heap hbl k
 obtain ⟨f0,f1,f2,f3,f4,f5,f6,f7⟩:=And.intro (y 0) (And.intro (y 1) (And.intro (y 2) (And.intro (y 3) (And.intro (y 4) (And.intro (y 5) (And.intro (y 6) (y 7)))))))
 obtain ⟨d0,d1,d2,d3,d4,d5,d6,d7⟩:=node_cells false none 0 0 none 0 0 none 0 0 ⟨#[]⟩ false 0 0 hbl
 obtain ⟨c0,c1,c2,c3,c4,c5,c6,c7⟩:=node_cells _ _ _ _ _ _ _ _ _ _ _ _ _ _ hbx
 have hq0:w.heap.size < w1.heap.size:=by omega
 have hq2:w.heap.size+1+1 < w1.heap.size:=by omega
 clear y hown hb1 hB hz
 replace hbx:=qh hbx
 replace hbh:=qh hbh
 replace hbl:=qh hbl
 replace hbr:=qh hbr
 replace hf2:=qh hf2
 replace hn2:=qh hn2
 replace hB1:=qh hB1
 go_wp2_with fail
 obtain ⟨W2,hW2⟩:∃ W2,W2=(World.setCell (World.setCell (World.setCell (World.setCell (World.setCell (World.setCell (World.setCell (World.setCell w1 ⟨w.heap.size+1+1,0,none⟩ (.bool false)) ⟨w.heap.size+1+1,1,none⟩ (.slice qka2 K.length qkc2)) ⟨w.heap.size+1+1,2,none⟩ (.slice qva2 V.length qvc2)) ⟨w.heap.size+1+1,3,none⟩ (.slice qha2 H.length qhc2)) ⟨w.heap.size+1+1,4,none⟩ (.string hi)) ⟨w.heap.size+1+1,5,none⟩ (.bool bd)) ⟨w.heap.size+1+1,6,none⟩ (.int .i64 nx.1)) ⟨w.heap.size+1+1,7,none⟩ (.int .u64 nx.2)):=⟨_,rfl⟩
 rw [← hW2]
 obtain ⟨hst,hus⟩:=node_stored (n2:=⟨false,K,V,H,hi,bd,nx⟩) (qka2:=qka2) (qva2:=qva2) (qha2:=qha2) (qkc2:=qkc2) (qvc2:=qvc2) (qhc2:=qhc2) hbl.out
 have hst2:W2.heap[w.heap.size+1+1]?=some (.cells #[.bool false,.slice qka2 K.length qkc2,.slice qva2 V.length qvc2,.slice qha2 H.length qhc2,.string hi,.bool bd,.int .i64 nx.1,.int .u64 nx.2] 98):=by rw [hW2];exact hst
 have hus2:Upd [w.heap.size+1+1] w1 W2:=by rw [hW2];exact hus
 replace hbx:=hus2.heap hbx.out (by simp <;> omega)
 replace hbh:=hus2.heap hbh.out (by simp)
 replace hbr:=hus2.heap hbr.out (by simp)
 have hB2:Below w.heap.size w W2:=hB1.out.trans (hus2.below hB1.out.size (by simp <;> omega))
 replace hn2:=hn2.out.upd _ _ _ _ _ _ _ hus2 hf2.out (by simp <;> omega)
 clear hst hus hus2 hB1 hbl hW2 c0 c1 c2 c3 c4 c5 c6 c7 d0 d1 d2 d3 d4 d5 d6 d7 f0 f1 f2 f3 f4 f5 f6 f7 hq0 hq1 hq2
 refine (hR.out _ hB2).mono ?_
 clear hR
 rintro e w3 ⟨rfl,hb3⟩
 replace hbx:=Below.heap' hb3 hbx
 replace hbh:=Below.heap' hb3 hbh
 have hbl:=Below.heap' hb3 hst2
 replace hbr:=Below.heap' hb3 hbr
 replace hn2:=hn2.below _ _ _ _ _ _ _ hb3
 have hB3:=hB2.trans (hb3.mono hB2.size)
 obtain ⟨c0,c1,c2,c3,c4,c5,c6,c7⟩:=node_cells _ _ _ _ _ _ _ _ _ _ _ _ _ _ hbx
 have hq0:w.heap.size < w3.heap.size:=heap_lt hbx
 have g2:¬ (K.length:Int) < 3:=by omega
 clear hb3 hB2 hst2
 replace hbx:=qh hbx
 replace hbh:=qh hbh
 replace hbl:=qh hbl
 replace hbr:=qh hbr
 replace hn2:=qh hn2
 replace hB3:=qh hB3
 go_wp2_with fail
 refine (hC.out _ hB3.out).mono ?_
 clear hC
 rintro e w4 ⟨qka3,qva3,qha3,qkc3,qvc3,qhc3,rfl,hown,hb4⟩
 have hz3:w.heap.size+4≤w3.heap.size:=heap_lt hbr.out
 replace hbx:=Below.heap' hb4 hbx.out
 replace hbh:=Below.heap' hb4 hbh.out
 replace hbl:=Below.heap' hb4 hbl.out
 replace hbr:=Below.heap' hb4 hbr.out
 replace hn2:=hn2.out.below _ _ _ _ _ _ _ hb4
 have hB4:=hB3.out.trans (hb4.mono hB3.out.size)
 have hf3:=hown.fresh.mono hz3
 have hn3:=hown.at
 clear hown hb4 hB3 hz3 c0 c1 c2 c3 c4 c5 c6 c7 hq0
 have y:=fun k=>frozen_of_heap hbr k
 obtain ⟨f0,f1,f2,f3,f4,f5,f6,f7⟩:=And.intro (y 0) (And.intro (y 1) (And.intro (y 2) (And.intro (y 3) (And.intro (y 4) (And.intro (y 5) (And.intro (y 6) (y 7)))))))
 obtain ⟨d0,d1,d2,d3,d4,d5,d6,d7⟩:=node_cells false none 0 0 none 0 0 none 0 0 ⟨#[]⟩ false 0 0 hbr
 obtain ⟨c0,c1,c2,c3,c4,c5,c6,c7⟩:=node_cells _ _ _ _ _ _ _ _ _ _ _ _ _ _ hbx
 have hq1:w.heap.size+1+1+1 < w4.heap.size:=heap_lt hbr
 have hq0:w.heap.size < w4.heap.size:=by omega
 have hq2:w.heap.size+1+1 < w4.heap.size:=by omega
 clear y
 have hat:∃ b o,qka=some ⟨b,o,none⟩∧b < w.heap.size∧K.length≤qkc∧qkc≤9223372036854775807∧w.cell? ⟨b,o+M,none⟩=some (.string sp):=by
  obtain ⟨b,o,h3,h4,h5,h6,h7⟩:=(hN.out w (Below.refl _ _)).1.str (by show 0 < K.length;omega);exact ⟨b,o,h3,h4,h5,h6,h7 _ _ hsep⟩
 obtain ⟨b,o,rfl,hbw,hkc,hkc63,hcell⟩:=hat
 have hcell4:=keep hB4 hcell
 replace hbx:=qh hbx
 replace hbh:=qh hbh
 replace hbl:=qh hbl
 replace hbr:=qh hbr
 replace hn2:=qh hn2
 replace hn3:=qh hn3
 replace hf3:=qh hf3
 replace hB4:=qh hB4
 replace hsep:=qh hsep
 have hmvl:M+1 < H.length:=by rw [hkd.out];omega
 have hw1:IntKind.i64.wrap ((M:Int)+1)=(M:Int)+1:=IntWalk.i64_in _ (by omega)
 have hk2:=hn2.out.1.1
 have hk263:=hn2.out.1.2.1
 have hv2:=hn2.out.2.2.1
 have hv263:=hn2.out.2.2.2.1
 have hk3:=hn3.out.1.1
 have hk363:=hn3.out.1.2.1
 have hv3:=hn3.out.2.2.1
 have hv363:=hn3.out.2.2.2.1
 go_upto_region 8 with fail
 obtain ⟨W5,hW5⟩:∃ W5,W5=(World.setCell (World.setCell (World.setCell (World.setCell (World.setCell (World.setCell (World.setCell (World.setCell w4 ⟨w.heap.size+1+1+1,0,none⟩ (.bool false)) ⟨w.heap.size+1+1+1,1,none⟩ (.slice qka3 K.length qkc3)) ⟨w.heap.size+1+1+1,2,none⟩ (.slice qva3 V.length qvc3)) ⟨w.heap.size+1+1+1,3,none⟩ (.slice qha3 H.length qhc3)) ⟨w.heap.size+1+1+1,4,none⟩ (.string hi)) ⟨w.heap.size+1+1+1,5,none⟩ (.bool bd)) ⟨w.heap.size+1+1+1,6,none⟩ (.int .i64 nx.1)) ⟨w.heap.size+1+1+1,7,none⟩ (.int .u64 nx.2)):=⟨_,rfl⟩
 rw [← hW5]
 obtain ⟨hst,hus⟩:=node_stored (n2:=⟨false,K,V,H,hi,bd,nx⟩) (qka2:=qka3) (qva2:=qva3) (qha2:=qha3) (qkc2:=qkc3) (qvc2:=qvc3) (qhc2:=qhc3) hbr.out
 rw [show World.setCell _ _ _=W5 from hW5.symm] at hst hus
 have hSW:SW w W5 ⟨false,K,V,H,hi,bd,nx⟩ h ⟨false,K,V,H,hi,bd,nx⟩ (some ⟨b,o,none⟩) qva qha qkc qvc qhc ⟨false,K,V,H,hi,bd,nx⟩ qka2 qva2 qha2 qkc2 qvc2 qhc2 ⟨false,K,V,H,hi,bd,nx⟩ qka3 qva3 qha3 qkc3 qvc3 qhc3:=by
  have hB5:=hB4.out.trans (hus.below hB4.out.size (by simp <;> omega));exact ⟨hB5,hus.heap hbx.out (by simp <;> omega),hus.heap hbh.out (by simp),hus.heap hbl.out (by simp),hst,hN.out W5 hB5,hn2.out.upd _ _ _ _ _ _ _ hus hf2.out (by simp <;> omega),hn3.out.upd _ _ _ _ _ _ _ hus hf3.out (by simp <;> omega),hf2.out,hf3.out⟩
 have hcell5:W5.cell? ⟨b,o+M,none⟩=some (.string sp):=hus.cell hcell4 (by simp <;> omega)
 clear hst hus hW5 hbx hbh hbl hbr hn2 hn3 hf2 hf3 hB4 hcell4 hcell hN c0 c1 c2 c3 c4 c5 c6 c7 d0 d1 d2 d3 d4 d5 d6 d7 f0 f1 f2 f3 f4 f5 f6 f7 hq0 hq1 hq2
 have hq1:w.heap.size+1+1+1 < W5.heap.size:=heap_lt hSW.br
 have hq0:w.heap.size < W5.heap.size:=by omega
 have hq2:w.heap.size+1+1 < W5.heap.size:=by omega
 obtain ⟨c0,c1,c2,c3,c4,c5,c6,c7⟩:=node_cells _ _ _ _ _ _ _ _ _ _ _ _ _ _ hSW.bx
 obtain ⟨d0,d1,d2,d3,d4,d5,d6,d7⟩:=node_cells _ _ _ _ _ _ _ _ _ _ _ _ _ _ hSW.bl
 obtain ⟨e0,e1,e2,e3,e4,e5,e6,e7⟩:=node_cells _ _ _ _ _ _ _ _ _ _ _ _ _ _ hSW.br
 have f1:W5.frozen? ⟨w.heap.size+1+1,1,none⟩=false:=frozen_of_heap hSW.bl _
 have f2:W5.frozen? ⟨w.heap.size+1+1,3,none⟩=false:=frozen_of_heap hSW.bl _
 have g1:W5.frozen? ⟨w.heap.size+1+1+1,1,none⟩=false:=frozen_of_heap hSW.br _
 have g2':W5.frozen? ⟨w.heap.size+1+1+1,3,none⟩=false:=frozen_of_heap hSW.br _
 replace hSW:=qh hSW
 obtain ⟨b2,o2,rfl,_⟩:=hSW.out.n2.1.str (by show 0 < K.length;omega)
 obtain ⟨v2,p2,rfl,_⟩:=hSW.out.n2.2.2.some (by show 0 < H.length;omega)
 obtain ⟨b3,o3,rfl,_⟩:=hSW.out.n3.1.str (by show 0 < K.length;omega)
 obtain ⟨v3,p3,rfl,_⟩:=hSW.out.n3.2.2.some (by show 0 < H.length;omega)
 have g3:M≤qkc2:=by omega
 have g4:M+1≤qhc2:=by omega
 have g5:M≤K.length:=by omega
 have g6:M+1≤H.length:=by omega
 have g7:¬ qkc3=M+1:=by omega
 have g8:¬ qhc3=M+1:=by omega
 have g9:(0:Int)≤(M:Int)+1:=by omega
 have g10:(M:Int)+1≤(H.length:Int):=by omega
 have g11:((M:Int)+1).toNat=M+1:=by omega
 have g12:M+1≤K.length:=by omega
 go_upto_region 15 with fail
 obtain ⟨W6,hW6⟩:∃ W6,W6=(W5.setCell ⟨w.heap.size+1+1,1,none⟩ (.slice (some ⟨b2,o2,none⟩) M M)).setCell ⟨w.heap.size+1+1,3,none⟩ (.slice (some ⟨v2,p2,none⟩) (M+1) (M+1)):=⟨_,rfl⟩
 rw [← hW6]
 have hU6:Upd [w.heap.size+1+1,w.heap.size+1+1+1] W5 W6:=by
  rw [hW6]
  iterate 2 refine Upd.setCell ?_ (by simp) _
  exact Upd.refl _ _
 have hl6:W6.heap[w.heap.size+1+1]?=some (.cells #[.bool false,.slice (some ⟨b2,o2,none⟩) M M,.slice qva2 V.length qvc2,.slice (some ⟨v2,p2,none⟩) (M+1) (M+1),.string hi,.bool bd,.int .i64 nx.1,.int .u64 nx.2] 98):=by
  rw [hW6,heap_self,heap_self,hSW.out.bl];rfl
 have hr6:W6.heap[w.heap.size+1+1+1]?=some (.cells #[.bool false,.slice (some ⟨b3,o3,none⟩) K.length qkc3,.slice qva3 V.length qvc3,.slice (some ⟨v3,p3,none⟩) H.length qhc3,.string hi,.bool bd,.int .i64 nx.1,.int .u64 nx.2] 98):=by
  rw [hW6,heap_set_other _ _ (by simp),heap_set_other _ _ (by simp)];exact hSW.out.br
 clear hW6 c0 c1 c2 c3 c4 c5 c6 c7 d0 d1 d2 d3 d4 d5 d6 d7 e0 e1 e2 e3 e4 e5 e6 e7 f1 f2 g1 g2' hcell5 hq0 hq1 hq2
 obtain ⟨e0,e1,e2,e3,e4,e5,e6,e7⟩:=node_cells _ _ _ _ _ _ _ _ _ _ _ _ _ _ hr6
 have f1:W6.frozen? ⟨w.heap.size+1+1+1,1,none⟩=false:=frozen_of_heap hr6 _
 have f2:W6.frozen? ⟨w.heap.size+1+1+1,3,none⟩=false:=frozen_of_heap hr6 _
 have hq1:w.heap.size+1+1+1 < W6.heap.size:=heap_lt hr6
 replace hl6:=qh hl6
 replace hr6:=qh hr6
 replace hU6:=qh hU6
 have i2:(M:Int)+1≤(K.length:Int):=by omega
 go_cut [6] (fun v wx=>v=.string sp∧Upd [w.heap.size+1+1,w.heap.size+1+1+1] W5 wx∧wx.heap[w.heap.size+1+1]?=some (.cells #[.bool false,.slice (some ⟨b2,o2,none⟩) M M,.slice qva2 V.length qvc2,.slice (some ⟨v2,p2,none⟩) (M+1) (M+1),.string hi,.bool bd,.int .i64 nx.1,.int .u64 nx.2] 98) ∧
  wx.heap[w.heap.size+1+1+1]?=some (.cells #[.bool false,.slice (some ⟨b3,o3+(M+1),none⟩) (K.length - (M+1)) (qkc3 - (M+1)),.slice qva3 V.length qvc3,.slice (some ⟨v3,p3+(M+1)*2,none⟩) (H.length - (M+1)) (qhc3 - (M+1)),.string hi,.bool bd,.int .i64 nx.1,.int .u64 nx.2] 98))
 case first =>
  go_region
  all_goals
   go_wp2_with fail;go_meet;refine ⟨rfl,Upd.drew ?_,?_,?_⟩
   ·iterate 2 refine Upd.setCell ?_ (by simp) _
    exact hU6.out
   ·change (World.setCell (World.setCell _ _ _) _ _).heap[_]?=_
    rw [heap_set_other _ _ (by simp),heap_set_other _ _ (by simp)];exact hl6.out
   ·change (World.setCell (World.setCell _ _ _) _ _).heap[_]?=_
    rw [heap_self,heap_self,hr6.out];rfl
 case rest =>
  obtain ⟨rfl,hU7,hl7,hr7⟩:=hcut;clear hU6 hl6 hr6 e0 e1 e2 e3 e4 e5 e6 e7 f1 f2 hq1;have hbh:=hU7.heap hSW.out.bh (by simp <;> omega);have c0:wc.cell? ⟨w.heap.size+1,0,none⟩=some (.int .i64 h.1):=by rw [cell_of_heap hbh];rfl
  have c1:wc.cell? ⟨w.heap.size+1,1,none⟩=some (.int .u64 h.2):=by rw [cell_of_heap hbh];rfl
  have y:=fun k=>frozen_of_heap hl7 k
  obtain ⟨f4,f5,f6,f7⟩:=And.intro (y 4) (And.intro (y 5) (And.intro (y 6) (y 7)));obtain ⟨d0,d1,d2,d3,d4,d5,d6,d7⟩:=node_cells _ _ _ _ _ _ _ _ _ _ _ _ _ _ hl7;have hq1:w.heap.size+1+1+1 < wc.heap.size:=heap_lt hr7;have hq2:w.heap.size+1+1 < wc.heap.size:=by omega
  have hq0:w.heap.size+1 < wc.heap.size:=by omega
  clear y;replace hU7:=qh hU7;replace hl7:=qh hl7;replace hr7:=qh hr7;replace hbh:=qh hbh;go_upto_region 16 with fail;go_cut [6] (fun v wx=>v=.string sp∧Upd [w.heap.size+1+1,w.heap.size+1+1+1] W5 wx∧wx.heap[w.heap.size+1+1]?=some (.cells #[.bool false,.slice (some ⟨b2,o2,none⟩) M M,.slice qva2 V.length qvc2,.slice (some ⟨v2,p2,none⟩) (M+1) (M+1),.string sp,.bool true,.int .i64 h.1,.int .u64 h.2] 98)∧wx.heap[w.heap.size+1+1+1]?=some (.cells #[.bool false,.slice (some ⟨b3,o3+(M+1),none⟩) (K.length - (M+1)) (qkc3 - (M+1)),.slice qva3 V.length qvc3,.slice (some ⟨v3,p3+(M+1)*2,none⟩) (H.length - (M+1)) (qhc3 - (M+1)),.string hi,.bool bd,.int .i64 nx.1,.int .u64 nx.2] 98))
  case first =>
   go_region
   all_goals
    go_wp2_with fail;go_meet;refine ⟨rfl,Upd.drew ?_,?_,?_⟩
    ·iterate 4 refine Upd.setCell ?_ (by simp) _
     exact hU7.out
    ·change (World.setCell (World.setCell (World.setCell (World.setCell _ _ _) _ _) _ _) _ _).heap[_]?=_
     rw [heap_self,heap_self,heap_self,heap_self,hl7.out];rfl
    ·change (World.setCell (World.setCell (World.setCell (World.setCell _ _ _) _ _) _ _) _ _).heap[_]?=_
     rw [heap_set_other _ _ (by simp),heap_set_other _ _ (by simp),heap_set_other _ _ (by simp),heap_set_other _ _ (by simp)];exact hr7.out
  case rest =>
   obtain ⟨rfl,hU8,hl8,hr8⟩:=hcut;clear hU7 hl7 hr7 hbh c0 c1 f4 f5 f6 f7 d0 d1 d2 d3 d4 d5 d6 d7 hq0 hq1 hq2;have y:=fun k=>frozen_of_heap hl8 k
   obtain ⟨f0,f1,f2,f3,f4,f5,f6,f7⟩:=And.intro (y 0) (And.intro (y 1) (And.intro (y 2) (And.intro (y 3) (And.intro (y 4) (And.intro (y 5) (And.intro (y 6) (y 7)))))));have z:=fun k=>frozen_of_heap hr8 k
   obtain ⟨z0,z1,z2,z3,z4,z5,z6,z7⟩:=And.intro (z 0) (And.intro (z 1) (And.intro (z 2) (And.intro (z 3) (And.intro (z 4) (And.intro (z 5) (And.intro (z 6) (z 7)))))));obtain ⟨d0,d1,d2,d3,d4,d5,d6,d7⟩:=node_cells _ _ _ _ _ _ _ _ _ _ _ _ _ _ hl8;obtain ⟨e0,e1,e2,e3,e4,e5,e6,e7⟩:=node_cells _ _ _ _ _ _ _ _ _ _ _ _ _ _ hr8
   have hfin:Hid (∀ W',Upd [w.heap.size+1+1,w.heap.size+1+1+1] W5 W'→SEnd ⟨false,K,V,H,hi,bd,nx⟩ h w (.returned (.tuple #[.agg #[.bool false,.slice (some ⟨b2,o2,none⟩) M M,.slice qva2 V.length qvc2,.slice (some ⟨v2,p2,none⟩) (M+1) (M+1),.string sp,.bool true,.int .i64 h.1,.int .u64 h.2],.agg #[.bool false,.slice (some ⟨b3,o3+(M+1),none⟩) (K.length - (M+1)) (qkc3 - (M+1)),.slice qva3 V.length qvc3,.slice (some ⟨v3,p3+(M+1)*2,none⟩) (H.length - (M+1)) (qhc3 - (M+1)),.string hi,.bool bd,.int .i64 nx.1,.int .u64 nx.2],.string sp])) W'):=qh (fun W' hu=>by
    have hlt:∀ x,x∈[w.heap.size+1+1,w.heap.size+1+1+1]→x < w.heap.size+4:=by simp <;> omega
    have a2:=hSW.out.n2.upd _ _ _ _ _ _ _ hu hSW.out.f2 hlt;have a3:=hSW.out.n3.upd _ _ _ _ _ _ _ hu hSW.out.f3 hlt;refine hend.out _ _ ⟨some ⟨b2,o2,none⟩,qva2,some ⟨v2,p2,none⟩,M,qvc2,M+1,some ⟨b3,o3+(M+1),none⟩,qva3,some ⟨v3,p3+(M+1)*2,none⟩,qkc3 - (M+1),qvc3,qhc3 - (M+1),?_,?_,?_,hSW.out.f2.mono (Nat.le_add_right _ 4),⟨hSW.out.f3.1.off.mono (Nat.le_add_right _ 4),hSW.out.f3.2.1.mono (Nat.le_add_right _ 4),hSW.out.f3.2.2.off.mono (Nat.le_add_right _ 4)⟩,hSW.out.bel.trans (hu.below hSW.out.bel.size (by simp <;> omega))⟩
    ·rw [hnl.out,hnr.out]
     simp only [List.length_take,List.length_drop,Nat.min_eq_left g5,Nat.min_eq_left g6]
    ·rw [hnl.out]
     exact ⟨at_head a2.1 M g5,a2.2.1,at_head a2.2.2 (M+1) g6⟩
    ·rw [hnr.out]
     have t1:=at_tail a3.1 (M+1) g12;have t2:=at_tail a3.2.2 (M+1) g6;rw [Nat.mul_one] at t1
     exact ⟨t1,a3.2.1,t2⟩)
   have hq1:w.heap.size+1+1+1 < wc.heap.size:=heap_lt hr8;have hq2:w.heap.size+1+1 < wc.heap.size:=by omega
   clear y z;replace hU8:=qh hU8;replace hl8:=qh hl8;replace hr8:=qh hr8;go_wp2_with fail
   go_region
   all_goals
    go_wp2_with fail;refine bodyPost_ret (v:=.tuple #[.agg #[.bool false,.slice (some ⟨b2,o2,none⟩) M M,.slice qva2 V.length qvc2,.slice (some ⟨v2,p2,none⟩) (M+1) (M+1),.string sp,.bool true,.int .i64 h.1,.int .u64 h.2],.agg #[.bool false,.slice (some ⟨b3,o3+(M+1),none⟩) (K.length - (M+1)) (qkc3 - (M+1)),.slice qva3 V.length qvc3,.slice (some ⟨v3,p3+(M+1)*2,none⟩) (H.length - (M+1)) (qhc3 - (M+1)),.string hi,.bool bd,.int .i64 nx.1,.int .u64 nx.2],.string sp]) (by simp [results,Tryz.results124,go_sem,d0,d1,d2,d3,d4,d5,d6,d7,e0,e1,e2,e3,e4,e5,e6,e7]) rfl ?_;refine hfin.out _ ?_;refine Upd.drew ?_
    iterate 16 refine Upd.setCell ?_ (by simp) _
    exact hU8.out
end Go.Proofs.YtbdealmkmpnpoaaGreat
namespace Go.Proofs.YtbdealmkmpnpoaaGreat.M
def nibs:List Nat→Nat
 | []=>0
 | x::l=>x+16*nibs l
def Nib (l:List Nat):Prop:=∀ x,x∈l→x < 16
def pw (n:Nat) (l:List Nat):Nat:=n+16*nibs l
theorem Nib.tail {x:Nat} {l:List Nat} (h:Nib (x::l)):Nib l:=fun y hy=>h y (List.mem_cons_of_mem _ hy)
theorem nibs_lt:∀ {l:List Nat},Nib l→nibs l < 16 ^ l.length
 | [],_=>by simp [nibs]
 | x::l,h=>by
  have h1:=nibs_lt h.tail;have h2:=h x (List.mem_cons_self ..);simp only [nibs,List.length_cons,Nat.pow_succ];omega
theorem nibs_get:∀ {l:List Nat} {i x:Nat},Nib l→l[i]?=some x→nibs l / 16 ^ i % 16=x
 | [],i,x,_,h=>by simp at h
 | y::l,0,x,hn,h=>by
  simp at h;subst h;have:=hn y (List.mem_cons_self ..);simp only [nibs,Nat.pow_zero,Nat.div_one];omega
 | y::l,i+1,x,hn,h=>by
  have h2:=hn y (List.mem_cons_self ..);have ih:=nibs_get (i:=i) hn.tail (by simpa using h);rw [← ih];simp only [nibs];rw [Nat.pow_succ,Nat.mul_comm (16 ^ i) 16,← Nat.div_div_eq_div_mul]
  congr 2
  omega
theorem nibs_snoc:∀ (l:List Nat) (x:Nat),nibs (l++[x])=nibs l+16 ^ l.length*x
 | [],x=>by simp [nibs]
 | y::l,x=>by
  simp only [List.cons_append,nibs,List.length_cons,nibs_snoc l x,Nat.pow_succ];rw [Nat.mul_add,Nat.mul_comm (16 ^ l.length) 16,Nat.mul_assoc];omega
theorem pw_lt {n:Nat} {l:List Nat} (hn:n < 16) (h:Nib l):pw n l < 16 ^ (l.length+1):=by
 have:=nibs_lt h
 unfold pw
 rw [Nat.pow_succ]
 omega
theorem pw_count {n:Nat} (hn:n < 16) (l:List Nat):pw n l % 16=n:=by unfold pw;omega
theorem pw_get {n i x:Nat} {l:List Nat} (hn:n < 16) (h:Nib l) (hx:l[i]?=some x):pw n l / 16 ^ (i+1) % 16=x:=by
 unfold pw
 rw [Nat.pow_succ,Nat.mul_comm (16 ^ i) 16,← Nat.div_div_eq_div_mul,show (n+16*nibs l) / 16=nibs l by omega]
 exact nibs_get h hx
theorem pw64 {n:Nat} {l:List Nat} (hn:n < 16) (h:Nib l) (hl:l.length≤15):pw n l < 18446744073709551616:=by
 have h1:=pw_lt hn h
 have h2:16 ^ (l.length+1)≤16 ^ 16:=Nat.pow_le_pow_right (by decide) (by omega)
 have h3:(16:Nat) ^ 16=18446744073709551616:=by decide
 omega
theorem pw_or {n x:Nat} {l:List Nat} (hn:n < 16) (h:Nib l):pw n l ||| x*16 ^ (l.length+1)=pw n (l++[x]):=by
 have h1:=pw_lt hn h
 have e:(16:Nat) ^ (l.length+1)=2 ^ (4*(l.length+1)):=by rw [Nat.pow_mul]
 rw [e] at h1 ⊢
 rw [Nat.or_comm,Nat.mul_comm,← Nat.two_pow_add_eq_or_of_lt h1]
 unfold pw
 rw [nibs_snoc,← e,Nat.pow_succ,Nat.mul_comm (16 ^ l.length) 16,Nat.mul_assoc]
 omega
def seenB (l:List Nat):Nat:=l.foldl (fun s x=>s ||| 2 ^ x) 0
theorem seenB_snoc (l:List Nat) (x:Nat):seenB (l++[x])=seenB l ||| 2 ^ x:=by simp [seenB]
theorem seenB_bit (l:List Nat) (j:Nat):(seenB l).testBit j=decide (j∈l):=by
 have h:∀ (l:List Nat) (s:Nat),(l.foldl (fun s x=>s ||| 2 ^ x) s).testBit j=(s.testBit j || decide (j∈l)):=by
  intro l
  induction l with
  | nil=>intro s;simp
  | cons x l ih =>
   intro s;rw [List.foldl_cons,ih,Nat.testBit_or,Nat.testBit_two_pow];by_cases hx:x=j
   ·subst hx;simp
   ·have:¬ j=x:=fun e=>hx e.symm
    simp [hx,this]
 unfold seenB
 rw [h]
 simp
theorem seenB_lt {l:List Nat} (h:∀ x,x∈l→x < 15):seenB l < 32768:=by
 rw [show (32768:Nat)=2 ^ 15 by decide]
 refine Nat.lt_pow_two_of_testBit _ fun j hj=>?_
 rw [seenB_bit]
 exact decide_eq_false fun hm=>by have:=h _ hm;omega
theorem nd_len:∀ {l m:List Nat},l.Nodup→(∀ a,a∈l→a∈m)→l.length≤m.length
 | [],_,_,_=>Nat.zero_le _
 | x::l,m,hn,hs=>by
  rw [List.nodup_cons] at hn;have h1:=nd_len (m:=m.erase x) hn.2 fun a ha=>(List.mem_erase_of_ne (fun e=>hn.1 (by rw [← e];exact ha))).2 (hs a (List.mem_cons_of_mem _ ha))
  have h2:=hs x (List.mem_cons_self ..);rw [List.length_erase_of_mem h2] at h1;have h3:0 < m.length:=List.length_pos_of_mem h2;rw [List.length_cons];omega
structure Perm15 (l:List Nat):Prop where
 len:l.length=15
 lt:∀ x,x∈l→x < 15
 nd:l.Nodup
theorem Perm15.nib {l:List Nat} (h:Perm15 l):Nib l:=fun x hx=>by have:=h.lt x hx;omega
theorem Perm15.mem {l:List Nat} (h:Perm15 l) {j:Nat} (hj:j < 15):j∈l:=by
 refine Classical.byContradiction fun hn=>?_
 have h1:=nd_len (l:=j::l) (m:=List.range 15) (List.nodup_cons.2 ⟨hn,h.nd⟩) fun a ha=>by
  rw [List.mem_range];rcases List.mem_cons.1 ha with rfl | ha
  ·exact hj
  ·exact h.lt a ha
 rw [List.length_cons,h.len,List.length_range] at h1
 omega
theorem Perm15.seenB {l:List Nat} (h:Perm15 l):seenB l=32767:=by
 refine Nat.eq_of_testBit_eq fun j=>?_
 rw [seenB_bit,show (32767:Nat)=2 ^ 15 - 1 by decide,Nat.testBit_two_pow_sub_one]
 by_cases hj:j < 15
 ·rw [decide_eq_true hj,decide_eq_true (h.mem hj)]
 ·rw [decide_eq_false hj,decide_eq_false fun hm=>hj (h.lt j hm)]
def moveL (l:List Nat) (a b:Nat):List Nat:=(l.eraseIdx a).insertIdx b (l.getD a 0)
end Go.Proofs.YtbdealmkmpnpoaaGreat.M
namespace Go.Proofs.YtbdealmkmpnpoaaGreat
open Go.RowKit M
theorem pmPlace_any (i:Nat) (hi:i < 64) (w:World):Calls Tryz.prog 138 #[.int .i64 i] w fun e w'=>e=.returned (.int .i64 ((4+4*i:Nat):Int))∧w=w':=by
 have h1:IntKind.i64.wrap (4*(i:Int))=4*(i:Int):=IntWalk.i64_in _ (by omega)
 have h2:IntKind.i64.wrap (4+4*(i:Int))=4+4*(i:Int):=IntWalk.i64_in _ (by omega)
 go_enter Tryz.func138,Tryz.ntmps138
 go_wp2_with fail
 go_ret
 exact ⟨by simp,rfl⟩
theorem pw_mask {n:Nat} {o:List Nat} (hn:n < 16) (ho:Nib o) (hl:o.length≤15):bits .and .u64 ((pw n o:Nat):Int) 15=(n:Int):=by
 have h:=bits_and_u64_nat (pw n o) 15 (pw64 hn ho hl) (by decide)
 rw [show (15:Nat)=2 ^ 4 - 1 by decide,Nat.and_two_pow_sub_one_eq_mod,show (2:Nat) ^ 4=16 by decide,pw_count hn] at h
 exact h
theorem pmLen_any (n:Nat) (o:List Nat) (hn:n < 16) (ho:Nib o) (hl:o.length≤15) (w:World):Calls Tryz.prog 136 #[.int .u64 (pw n o)] w fun e w'=>e=.returned (.int .i64 n)∧w=w':=by
 have h1:=pw_mask hn ho hl
 have h2:IntKind.i64.wrap (n:Int)=n:=IntWalk.i64_in _ (by omega)
 go_enter Tryz.func136,Tryz.ntmps136
 go_wp2_with fail
 go_ret
 exact ⟨by simp,rfl⟩
theorem pw_shift {n i:Nat} {o:List Nat} (hn:n < 16) (ho:Nib o) (hl:o.length=15) (hi:i < 15):bits .and .u64 (((pw n o:Nat):Int) / 2 ^ (4+4*i)) 15=((o.getD i 0:Nat):Int):=by
 have hx:o[i]?=some (o.getD i 0):=by rw [List.getD_eq_getElem?_getD,List.getElem?_eq_getElem (by omega)];rfl
 have h0:=pw_get hn ho hx
 have e:((pw n o:Nat):Int) / 2 ^ (4+4*i)=((pw n o / 16 ^ (i+1):Nat):Int):=by
  rw [Int.natCast_ediv,show (16:Nat)=2 ^ 4 by decide,← Nat.pow_mul,show 4*(i+1)=4+4*i by omega];simp
 have h1:=pw64 hn ho (Nat.le_of_eq hl)
 have h2:pw n o / 16 ^ (i+1) < 18446744073709551616:=Nat.lt_of_le_of_lt (Nat.div_le_self _ _) h1
 have h:=bits_and_u64_nat (pw n o / 16 ^ (i+1)) 15 h2 (by decide)
 rw [show (15:Nat)=2 ^ 4 - 1 by decide,Nat.and_two_pow_sub_one_eq_mod,show (2:Nat) ^ 4=16 by decide,h0] at h
 rw [e]
 exact h
theorem pmAt_any (n:Nat) (o:List Nat) (i:Nat) (hn:n < 16) (ho:Nib o) (hl:o.length=15) (hi:i < 15) (w:World):Calls Tryz.prog 102 #[.int .u64 (pw n o),.int .i64 i] w fun e w'=>e=.returned (.int .i64 ((o.getD i 0:Nat):Int))∧w=w':=by
 have h1:=pw_shift hn ho hl hi
 have hx:o.getD i 0 < 16:=by
  rw [List.getD_eq_getElem?_getD,List.getElem?_eq_getElem (show i < o.length by omega)];exact ho _ (List.getElem_mem _)
 obtain ⟨x,hxe⟩:∃ x,x=o.getD i 0:=⟨_,rfl⟩
 rw [← hxe] at h1 hx ⊢
 have hP:=pmPlace_any i (by omega) w
 have h3:¬ (15:Int)≤(i:Int):=by omega
 have h4:(0:Int)≤((4+4*i:Nat):Int):=by omega
 have h5:wrap64 (x:Int)=(x:Int):=IntWalk.wrap64_in _ (by omega)
 have h6:IntKind.i64.wrap (x:Int)=(x:Int):=IntWalk.i64_in _ (by omega)
 replace hxe:=qh hxe
 go_enter Tryz.func102,Tryz.ntmps102
 go_wp2_with fail
 refine hP.mono ?_
 rintro e w' ⟨rfl,rfl⟩
 go_wp2_with fail
 go_ret
 exact ⟨by simp,rfl⟩
theorem or_i64 {a b:Nat} (ha:a < 32768) (hb:b < 32768):bits .or .i64 (a:Int) (b:Int)=((a ||| b:Nat):Int) :=
 (bits_nat .i64 15 (by decide) (fun n h0 h1=>IntWalk.i64_in n (by omega)) a b ha hb).2
theorem wrap_two (x:Nat) (hx:x < 15):wrap64 ((2:Int) ^ x)=((2 ^ x:Nat):Int):=by
 have h:2 ^ x≤2 ^ 14:=Nat.pow_le_pow_right (by decide) (by omega)
 have h2:(2:Nat) ^ 14=16384:=by decide
 rw [show ((2:Int) ^ x)=((2 ^ x:Nat):Int) by simp]
 generalize 2 ^ x=y at *
 exact IntWalk.wrap64_in _ (by omega)
structure PW (n:Nat) (o:List Nat):Prop where
 n:n < 15
 o:Perm15 o
theorem PW.nib {n:Nat} {o:List Nat} (h:PW n o):n < 16∧Nib o∧o.length=15:=⟨by have:=h.n;omega,h.o.nib,h.o.len⟩
theorem PW.lt {n i:Nat} {o:List Nat} (h:PW n o) (hi:i < 15):o.getD i 0 < 15:=by
 rw [List.getD_eq_getElem?_getD,List.getElem?_eq_getElem (show i < o.length by rw [h.o.len];omega)]
 exact h.o.lt _ (List.getElem_mem _)
set_option maxRecDepth 100000 in
theorem pmRight_any (n:Nat) (o:List Nat) (h:PW n o) (w:World):Calls Tryz.prog 134 #[.int .u64 (pw n o)] w fun e w'=>e=.returned (.bool true)∧Below w.heap.size w w':=by
 obtain ⟨h1,h2,h3⟩:=h.nib
 have hn:=h.n
 have hAt:=qh fun (i:Nat) (hi:i < 15) W=>pmAt_any n o i h1 h2 h3 hi W
 have hLn:=qh fun W=>pmLen_any n o h1 h2 (Nat.le_of_eq h3) W
 have hlt:=qh fun (i:Nat) (hi:i < 15)=>h.lt hi
 have hse:=qh h.o.seenB
 have ho:=qh h.o
 have hl:=qh h3
 clear h h1 h2 h3
 obtain ⟨p,hp⟩:∃ p,p=pw n o:=⟨_,rfl⟩
 rw [← hp] at hAt hLn ⊢
 replace hp:=qh hp
 go_enter Tryz.func134,Tryz.ntmps134
 go_wp2_with fail
 go_loopg [3,5] 15 (fun gk v3 v5 wr=>∃ k:Nat,gk=15 - k∧k≤15∧v5=.int .i64 k∧v3=.int .i64 (seenB (o.take k))∧Below w.heap.size w wr)
 case atStart=>exact ⟨0,rfl,Nat.zero_le _,rfl,rfl,Below.refl _ _⟩
 case round =>
  obtain ⟨k,rfl,hk,rfl,rfl,hB⟩:=hrel;by_cases hlt15:k < 15
  ·have hA:=hAt.out k hlt15 wr
   have hx:=hlt.out k hlt15;have hw1:IntKind.i64.wrap ((k:Int)+1)=(k:Int)+1:=IntWalk.i64_in _ (by omega);have hk2:(k:Int) < 15:=by omega
   have hsn:Hid (seenB (o.take (k+1))=seenB (o.take k) ||| 2 ^ o.getD k 0):=qh (by
    have hkl:k < o.length:=by rw [hl.out];omega
    rw [List.take_succ_eq_append_getElem hkl,seenB_snoc,List.getD_eq_getElem?_getD,List.getElem?_eq_getElem hkl]
    rfl)
   have hs1:seenB (o.take k) < 32768:=seenB_lt fun y hy=>ho.out.lt y (List.mem_of_mem_take hy)
   obtain ⟨x,hxe⟩:∃ x,x=o.getD k 0:=⟨_,rfl⟩
   have h2x:2 ^ x < 32768:=by
    have:2 ^ x≤2 ^ 14:=Nat.pow_le_pow_right (by decide) (by have:=hlt.out k hlt15;omega);omega
   obtain ⟨s,hse⟩:∃ s,s=seenB (o.take k):=⟨_,rfl⟩;rw [← hxe] at hA hx hsn;rw [← hse] at hsn hs1 ⊢;replace hxe:=qh hxe;replace hse:=qh hse;replace hB:=qh hB;go_wp2_with fail;refine hA.mono ?_;rintro e w1 ⟨rfl,rfl⟩;go_wp2_with fail;go_roundg (15 - (k+1))
   case rel =>
    refine ⟨k+1,rfl,by omega,by go_num,?_,hB.out⟩;rw [hsn.out,wrap_two x hx,or_i64 hs1 h2x]
   case measure=>omega
  ·obtain rfl:k=15:=by omega
   have hf:(seenB (o.take 15):Int)=32767:=by rw [List.take_of_length_le (by rw [hl.out];exact Nat.le_refl _),hse.out];rfl
   have hL:=hLn.out wr;have hn2:(n:Int)≤15:=by omega
   replace hB:=qh hB;obtain ⟨s,hs⟩:∃ s,s=(seenB (o.take 15):Int):=⟨_,rfl⟩;rw [← hs] at hf ⊢;subst hf;go_wp2_with fail;refine hL.mono ?_;rintro e w1 ⟨rfl,rfl⟩;go_wp2_with fail;go_ret;exact ⟨by simp,hB.out⟩
end Go.Proofs.YtbdealmkmpnpoaaGreat
