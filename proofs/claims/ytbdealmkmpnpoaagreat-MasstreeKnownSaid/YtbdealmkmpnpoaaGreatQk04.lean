import Derived.Deep.RegionLaw
import Derived.Deep.MidRow
import Derived.ChangeKeysEq
import Derived.Laws.Strings
import Derived.Laws.IdiomStrings
import Derived.Lib.Strings
import Derived.RangeFuncNested
import Derived.RangeFuncBound
import Derived.RangeFuncCalls
import Derived.RangeFuncLeaves
import Derived.RangeFuncWrites
import Derived.Shelf.Abstract
import Derived.Shelf.RegionOpen
import Derived.WalkKit
import Derived.OwnWalkIn
import Derived.TacticsInMore
import Derived.LoopNIn
import Derived.LoopIn
import Derived.OrdersIn
import Derived.TacticsIn
import Derived.Test.YtbdealmkmpnpoaaGreatQk01
import Derived.Test.YtbdealmkmpnpoaaGreatQk02
import Derived.Test.YtbdealmkmpnpoaaGreatQk03
set_option linter.all false
namespace Go.Proofs.YtbdealmkmpnpoaaGreat.M
open Go.Lib
def zeroSl:Sl:=⟨⟨0,0⟩,s0,s0,false,(0,0)⟩
structure LF where
 n:Nat
 o:List Nat
 S:List Sl
 hi:Mk
 bnd:Bool
 nx:Hd
def LF.slot (f:LF) (r:Nat):Sl:=f.S.getD (f.o.getD r 0) zeroSl
def LF.row (f:LF):List Sl:=(f.o.take f.n).map fun i=>f.S.getD i zeroSl
def LF.cov (f:LF) (m:Mk):Bool:=!f.bnd || m.lt f.hi
structure LFOK (f:LF):Prop where
 n:f.n≤14
 o:Perm15 f.o
 S:f.S.length=15
 free:∀ r,f.n≤r→r < 15→f.slot r=zeroSl
 ok:∀ s,s∈f.row→SlOK s
 rise:f.row.Pairwise fun a b=>a.m.lt b.m=true
 cov:∀ s,s∈f.row→f.cov s.m=true
 hi:if f.bnd=true then MkOK f.hi else f.hi=⟨0,0⟩
def LF.bn (f:LF):BN Sl:=⟨true,f.row.map (fun s=>mT s.m),f.row,[],if f.bnd then mT f.hi else s0,f.bnd,f.nx⟩
section
variable {f:LF} {s:Sl} {i r:Nat}
theorem LFOK.len (h:LFOK f):f.row.length=f.n:=by
 unfold LF.row
 rw [List.length_map,List.length_take,h.o.len]
 have:=h.n
 omega
theorem LFOK.get (h:LFOK f) (hr:r < f.n):f.row[r]?=some (f.slot r):=by
 have hn:=h.n
 have hl:r < f.o.length:=by rw [h.o.len];omega
 unfold LF.row LF.slot
 rw [List.getElem?_map,List.getElem?_take_of_lt hr,List.getElem?_eq_getElem hl]
 simp [List.getD_eq_getElem?_getD,List.getElem?_eq_getElem hl]
theorem LFOK.ord (h:LFOK f) (hr:r < 15):f.o[r]?=some (f.o.getD r 0)∧f.o.getD r 0 < 15:=by
 have hl:r < f.o.length:=by rw [h.o.len];omega
 have e:f.o.getD r 0=f.o[r]:=by rw [List.getD_eq_getElem?_getD,List.getElem?_eq_getElem hl];rfl
 rw [e]
 exact ⟨List.getElem?_eq_getElem hl,h.o.lt _ (List.getElem_mem hl)⟩
theorem LFOK.mem (h:LFOK f) (hr:r < 15):f.S[f.o.getD r 0]?=some (f.slot r):=by
 have:=(h.ord hr).2
 unfold LF.slot
 rw [List.getD_eq_getElem?_getD (l:=f.S),List.getElem?_eq_getElem (by rw [h.S];omega)]
 rfl
def LF.set (f:LF) (r:Nat) (s:Sl):LF:={ f with S:=f.S.set (f.o.getD r 0) s }
theorem nodup_ne {l:List Nat} (h:l.Nodup) {a b:Nat} (ha:a < l.length) (hb:b < l.length) (hne:a≠b):l.getD a 0≠l.getD b 0:=by
 rw [List.getD_eq_getElem?_getD,List.getD_eq_getElem?_getD,List.getElem?_eq_getElem ha,List.getElem?_eq_getElem hb]
 intro e
 exact hne ((List.getElem?_inj ha h).1 (by rw [List.getElem?_eq_getElem ha,List.getElem?_eq_getElem hb];exact congrArg some e))
theorem set_getD {S:List Sl} {a b:Nat} {s:Sl} (ha:a < S.length):(S.set a s).getD b zeroSl=if a=b then s else S.getD b zeroSl:=by
 rw [List.getD_eq_getElem?_getD,List.getElem?_set]
 split
 ·rename_i e
  subst e;simp
 ·rw [← List.getD_eq_getElem?_getD]
theorem map_set {l:List Nat} {S:List Sl} {s:Sl} (hn:l.Nodup) (hl:∀ x,x∈l→x < S.length) (hr:r < l.length):l.map (fun i=>(S.set (l.getD r 0) s).getD i zeroSl)=(l.map fun i=>S.getD i zeroSl).set r s:=by
 have e:l.getD r 0=l[r]:=by rw [List.getD_eq_getElem?_getD,List.getElem?_eq_getElem hr];rfl
 refine List.ext_getElem? fun j=>?_
 rw [List.getElem?_map,List.getElem?_set,List.length_map,List.getElem?_map]
 by_cases hj:j < l.length
 ·rw [List.getElem?_eq_getElem hj,Option.map_some,Option.map_some,set_getD (by rw [e];exact hl _ (List.getElem_mem hr)),e]
  by_cases hrj:r=j
  ·subst hrj
   simp [hr]
  ·rw [if_neg hrj,if_neg]
   intro he;exact hrj ((List.getElem?_inj hr hn).1 (by rw [List.getElem?_eq_getElem hr,List.getElem?_eq_getElem hj];exact congrArg some he))
 ·rw [List.getElem?_eq_none (by omega)]
  rw [if_neg (by omega)];rfl
theorem take_getD {l:List Nat} {a n:Nat} (h:a < n):(l.take n).getD a 0=l.getD a 0:=by
 rw [List.getD_eq_getElem?_getD,List.getD_eq_getElem?_getD,List.getElem?_take_of_lt h]
theorem LFOK.row_set (h:LFOK f) (hr:r < f.n) (s:Sl):(f.set r s).row=f.row.set r s:=by
 have hn:=h.n
 have hl:=h.o.len
 unfold LF.row LF.set
 simp only
 rw [← take_getD hr]
 exact map_set (h.o.nd.sublist (List.take_sublist _ _)) (fun x hx=>by rw [h.S];exact h.o.lt x (List.mem_of_mem_take hx)) (by rw [List.length_take];omega)
theorem rise_set {l:List Sl} (h:l.Pairwise fun a b=>a.m.lt b.m=true) {t:Sl} (ht:l[r]?=some t) (e:s.m=t.m):(l.set r s).Pairwise fun a b=>a.m.lt b.m=true:=by
 have hm:(l.set r s).map (·.m)=l.map (·.m):=by
  refine List.ext_getElem? fun j=>?_
  rw [List.getElem?_map,List.getElem?_map,List.getElem?_set];split
  ·rename_i hj
   subst hj;obtain ⟨h1,h2⟩:=List.getElem?_eq_some_iff.1 ht;rw [if_pos h1,ht];simp [e]
  ·rfl
 have:=(List.pairwise_map (f:=fun s:Sl=>s.m) (R:=fun a b=>a.lt b=true)).2 h
 rw [← hm] at this
 exact List.pairwise_map.1 this
theorem LFOK.set (h:LFOK f) (hr:r < f.n) (hs:SlOK s) (e:s.m=(f.slot r).m):LFOK (f.set r s):=by
 have hn:=h.n
 have hrow:=h.row_set hr s
 have hget:=h.get hr
 have hmem:∀ x,x∈(f.set r s).row→x=s∨x∈f.row:=fun x hx=>by
  rw [hrow] at hx;exact (List.mem_or_eq_of_mem_set hx).symm
 refine ⟨h.n,h.o,by simp [LF.set,h.S],fun q h1 h2=>?_,fun x hx=>?_,?_,fun x hx=>?_,h.hi⟩
 ·have:=h.free q h1 h2
  unfold LF.slot LF.set at *;simp only at h1 ⊢;rw [set_getD (by rw [h.S];exact (h.ord (by omega)).2),if_neg (nodup_ne h.o.nd (by rw [h.o.len];omega) (by rw [h.o.len];omega) (by omega))];exact this
 ·rcases hmem x hx with rfl | hx
  ·exact hs
  ·exact h.ok x hx
 ·rw [hrow]
  exact rise_set h.rise hget e
 ·rcases hmem x hx with rfl | hx
  ·show f.cov x.m=true
   rw [e];exact h.cov _ (List.mem_of_getElem? hget)
  ·exact h.cov x hx
theorem move_perm {l:List Nat} {a b:Nat} (ha:a < l.length) (hb:b < l.length):(moveL l a b).Perm l:=by
 have e:l.getD a 0=l[a]:=by rw [List.getD_eq_getElem?_getD,List.getElem?_eq_getElem ha];rfl
 unfold moveL
 rw [e]
 refine (List.perm_insertIdx _ _ (by rw [List.length_eraseIdx_of_lt ha];omega)).trans ?_
 rw [List.eraseIdx_eq_take_drop_succ]
 refine List.perm_middle.symm.trans ?_
 rw [← List.drop_eq_getElem_cons ha,List.take_append_drop]
theorem Perm15.move {l:List Nat} (h:Perm15 l) {a b:Nat} (ha:a < 15) (hb:b < 15):Perm15 (moveL l a b):=by
 have hp:=move_perm (l:=l) (a:=a) (b:=b) (by rw [h.len];exact ha) (by rw [h.len];exact hb)
 exact ⟨by rw [hp.length_eq];exact h.len,fun x hx=>h.lt x (hp.mem_iff.1 hx),(hp.nodup_iff).2 h.nd⟩
theorem move_get {l:List Nat} {a b j:Nat} (ha:a < l.length) (hb:b < l.length) (hj:j < l.length):(moveL l a b).getD j 0=if j < b then (if j < a then l.getD j 0 else l.getD (j+1) 0) else if j=b then l.getD a 0 else if j≤a then l.getD (j - 1) 0 else l.getD j 0:=by
 unfold moveL
 rw [List.getD_eq_getElem?_getD,List.getElem?_insertIdx,List.getElem?_eraseIdx,List.getElem?_eraseIdx,List.length_eraseIdx_of_lt ha]
 simp only [List.getD_eq_getElem?_getD]
 by_cases h1:j < b
 ·simp only [h1,if_true]
  split <;> rfl
 ·by_cases h2:j=b
  ·subst h2
   simp only [Nat.lt_irrefl,if_false,if_true];rw [if_pos (by omega)];rfl
  ·simp only [h1,h2,if_false]
   by_cases h3:j≤a
   ·rw [if_pos (by omega),if_pos h3]
   ·rw [if_neg (by omega),if_neg h3,show j - 1+1=j by omega]
def LF.ins (f:LF) (r:Nat) (s:Sl):LF:={ f with n:=f.n+1,o:=moveL f.o f.n r,S:=f.S.set (f.o.getD f.n 0) s }
def LF.del (f:LF) (r:Nat):LF:={ f with n:=f.n - 1,o:=moveL f.o r (f.n - 1),S:=f.S.set (f.o.getD r 0) zeroSl }
theorem LFOK.slot_ins (h:LFOK f) (hr:r≤f.n) {j:Nat} (hj:j < 15):(f.ins r s).slot j=if j < r then f.slot j else if j=r then s else if j≤f.n then f.slot (j - 1) else f.slot j:=by
 have hn:=h.n
 have hl:=h.o.len
 have hne:∀ q,q < 15→q≠f.n→f.o.getD f.n 0≠f.o.getD q 0:=fun q hq hh=>nodup_ne h.o.nd (by omega) (by omega) (fun e=>hh e.symm)
 have hS:=(h.ord (r:=f.n) (by omega)).2
 unfold LF.slot LF.ins
 simp only
 rw [set_getD (by rw [h.S];exact hS),move_get (by omega) (by omega) (by omega)]
 by_cases h1:j < r
 ·simp only [h1,if_true]
  rw [if_pos (show j < f.n by omega),if_neg (hne j hj (by omega))]
 ·by_cases h2:j=r
  ·subst h2
   simp
  ·simp only [h1,h2,if_false]
   by_cases h3:j≤f.n
   ·simp only [h3,if_true]
    rw [if_neg (hne _ (by omega) (by omega))]
   ·simp only [h3,if_false]
    rw [if_neg (hne _ (by omega) (by omega))]
theorem LFOK.slot_del (h:LFOK f) (hr:r < f.n) {j:Nat} (hj:j < 15):(f.del r).slot j=if j < r then f.slot j else if j+1 < f.n then f.slot (j+1) else if j+1=f.n then zeroSl else f.slot j:=by
 have hn:=h.n
 have hl:=h.o.len
 have hne:∀ q,q < 15→q≠r→f.o.getD r 0≠f.o.getD q 0:=fun q hq hh=>nodup_ne h.o.nd (by omega) (by omega) (fun e=>hh e.symm)
 have hS:=(h.ord (r:=r) (by omega)).2
 unfold LF.slot LF.del
 simp only
 rw [set_getD (by rw [h.S];exact hS),move_get (by omega) (by omega) (by omega)]
 by_cases h1:j < f.n - 1
 ·simp only [h1,if_true]
  by_cases h2:j < r
  ·simp only [h2,if_true]
   rw [if_neg (hne j hj (by omega))]
  ·simp only [h2,if_false]
   rw [if_neg (hne _ (by omega) (by omega)),if_pos (show j+1 < f.n by omega)]
 ·by_cases h2:j=f.n - 1
  ·rw [if_neg h1,if_pos h2,if_pos rfl,if_neg (show ¬ j < r by omega),if_neg (show ¬ j+1 < f.n by omega),if_pos (show j+1=f.n by omega)]
  ·rw [if_neg h1,if_neg h2,if_neg (show ¬ j≤r by omega),if_neg (hne _ hj (by omega)),if_neg (show ¬ j < r by omega),if_neg (show ¬ j+1 < f.n by omega),if_neg (show ¬ j+1=f.n by omega)]
theorem row_ext {g:LF} (L:List Sl) (hl:g.o.length=15) (hn:g.n≤15) (hS:g.n=L.length) (h:∀ j,j < g.n→L[j]?=some (g.slot j)):g.row=L:=by
 refine List.ext_getElem? fun j=>?_
 unfold LF.row
 rw [List.getElem?_map]
 by_cases hj:j < g.n
 ·rw [h j hj,List.getElem?_take_of_lt hj,List.getElem?_eq_getElem (by omega)]
  unfold LF.slot;simp [List.getD_eq_getElem?_getD,List.getElem?_eq_getElem (show j < g.o.length by omega)]
 ·rw [List.getElem?_eq_none (by rw [List.length_take];omega),List.getElem?_eq_none (by omega)]
  rfl
theorem LFOK.row_ins (h:LFOK f) (hr:r≤f.n) (hn:f.n < 14) (s:Sl):(f.ins r s).row=f.row.insertIdx r s:=by
 have hl:=h.len
 have ho:Perm15 (moveL f.o f.n r):=h.o.move (by omega) (by omega)
 refine row_ext _ ho.len (by show f.n+1≤15;omega) (by rw [List.length_insertIdx,hl,if_pos hr];rfl) fun j hj=>?_
 have hj':j < f.n+1:=hj
 rw [h.slot_ins hr (by omega),List.getElem?_insertIdx,hl]
 by_cases h1:j < r
 ·simp only [h1,if_true]
  exact h.get (by omega)
 ·by_cases h2:j=r
  ·subst h2
   simp [hr]
  ·simp only [h1,h2,if_false]
   rw [if_pos (by omega)];exact h.get (by omega)
theorem LFOK.row_del (h:LFOK f) (hr:r < f.n):(f.del r).row=f.row.eraseIdx r:=by
 have hl:=h.len
 have hn:=h.n
 have ho:Perm15 (moveL f.o r (f.n - 1)):=h.o.move (by omega) (by omega)
 refine row_ext _ ho.len (by show f.n - 1≤15;omega) (by rw [List.length_eraseIdx_of_lt (by omega),hl];rfl) fun j hj=>?_
 have hj':j < f.n - 1:=hj
 rw [h.slot_del hr (by omega),List.getElem?_eraseIdx]
 by_cases h1:j < r
 ·simp only [h1,if_true]
  exact h.get (by omega)
 ·simp only [h1,if_false]
  rw [if_pos (by omega)];exact h.get (by omega)
end
end Go.Proofs.YtbdealmkmpnpoaaGreat.M
namespace Go.Proofs.YtbdealmkmpnpoaaGreat
open Go.RowKit M
def ints (l:List Nat):List Value:=l.map fun x=>.int .i64 ((x:Nat):Int)
theorem ints_len (l:List Nat):(ints l).length=l.length:=by simp [ints]
theorem ints_get {l:List Nat} {i:Nat} (h:i < l.length):(ints l)[i]?=some (.int .i64 ((l.getD i 0:Nat):Int)):=by
 unfold ints
 rw [List.getElem?_map,List.getElem?_eq_getElem h,List.getD_eq_getElem?_getD,List.getElem?_eq_getElem h]
 rfl
theorem ints_set (l:List Nat) (i x:Nat):(ints l).toArray.setIfInBounds i (.int .i64 x)=(ints (l.set i x)).toArray:=by
 simp [ints,List.map_set]
theorem ints_one (l:List Nat):∀ v,v∈ints l→v.oneCell'=true:=by
 intro v hv
 obtain ⟨x,_,rfl⟩:=List.mem_map.1 hv
 rfl
theorem insertIdx_eq {α:Type} {x:α}:∀ {l:List α} {i:Nat},i≤l.length→l.insertIdx i x=l.take i++x::l.drop i
 | _,0,_=>by simp
 | [],i+1,h=>by simp at h
 | a::l,i+1,h=>by simp [insertIdx_eq (l:=l) (i:=i) (by simpa using h)]
theorem move_copies {l : List Nat} (hl : l.length = 15) {a b : Nat} (ha : a < 15) (hb : b < 15) :
    ((((l.take a++l.drop (a+1)++l.drop 14).take (b+1)++((l.take a++l.drop (a+1)++l.drop 14).drop b).take (14 - b)++(l.take a++l.drop (a+1)++l.drop 14).drop 15)).set b (l.getD a 0))=moveL l a b:=by
 have he:(l.take a++l.drop (a+1)).length=14:=by rw [List.length_append,List.length_take,List.length_drop];omega
 unfold moveL
 rw [List.eraseIdx_eq_take_drop_succ]
 obtain ⟨e,hee⟩:∃ e,e=l.take a++l.drop (a+1):=⟨_,rfl⟩
 obtain ⟨t,htt⟩:∃ t,t=l.drop 14:=⟨_,rfl⟩
 have ht:t.length=1:=by rw [htt,List.length_drop];omega
 rw [← hee] at he
 rw [← hee,← htt]
 rw [insertIdx_eq (by omega)]
 have e1:(e++t).drop 15=[]:=List.drop_eq_nil_of_le (by rw [List.length_append];omega)
 have e2:((e++t).drop b).take (14 - b)=e.drop b:=by
  rw [List.drop_append_of_le_length (by omega),List.take_append_of_le_length (by rw [List.length_drop];omega),List.take_of_length_le (by rw [List.length_drop];omega)]
 rw [e1,e2,List.append_nil]
 rcases Nat.lt_or_ge b 14 with h | h
 ·rw [List.take_append_of_le_length (by omega),List.take_succ_eq_append_getElem (by omega),List.append_assoc,List.set_append_right _ _ (by rw [List.length_take];omega),List.length_take,show b - min b e.length=0 by omega]
  rfl
 ·obtain rfl:b=14:=by omega
  obtain ⟨y,rfl⟩:∃ y,t=[y]:=List.length_eq_one_iff.1 ht;rw [List.take_of_length_le (by rw [List.length_append];simp;omega),List.drop_eq_nil_of_le (by omega),List.append_nil,List.take_of_length_le (by omega),List.set_append_right _ _ (by omega),he];rfl
theorem ints_app (l m:List Nat):ints (l++m)=ints l++ints m:=by simp [ints]
theorem ints_take (l:List Nat) (n:Nat):(ints l).take n=ints (l.take n):=by simp [ints,List.map_take]
theorem ints_drop (l:List Nat) (n:Nat):(ints l).drop n=ints (l.drop n):=by simp [ints,List.map_drop]
theorem int_size:(Tryz.prog.info? 3).map (·.size)=some 1:=by kernel_rfl
theorem copy_ints {W : World} {b : Nat} {l : List Nat} (hb : W.heap[b]? = some (.cells (ints l).toArray 240)) (d s n : Nat) (ty : TypeId) (dL dC sL sC so : Nat) (hn : min sL dL = n) (hs : n = 0 ∨ so = s) (h1 : s + n ≤ l.length) (h2 : d + n ≤ l.length) (dO : Nat) (hd : n = 0 ∨ dO = d) (hdo : dO ≤ l.length) :
    (Builtin.copy_ #[241,241] ty #[.slice (some ⟨b,dO,none⟩) dL dC,.slice (some ⟨b,so,none⟩) sL sC]).run Tryz.prog W=.ok (goInt n) (W.setRow b (ints (l.take dO++(l.drop s).take n++l.drop (dO+n))).toArray):=by
 have hlen:((l.drop s).take n).length=n:=by rw [List.length_take,List.length_drop];omega
 have:=run_copy_rowk (P:=Tryz.prog) W 241 241 ty 3 1 b dO dL dC ⟨b,so,none⟩ sL sC (ints l).toArray 240 (ints ((l.drop s).take n)) Tryz.underlying241 int_size hb (by rw [ints_len,hlen,Nat.mul_one];exact hn.symm) (fun j v hj=>?_) (by rw [ints_len,hlen];simp [ints_len];omega) (ints_one _)
 ·rw [this,show Nat.min sL dL=n from hn]
  simp only [ints_len,hlen,ints_take,ints_drop];rw [ints_app,ints_app]
 ·have hj2:=(List.getElem?_eq_some_iff.1 hj).1
  rw [ints_len,hlen] at hj2;rw [Addr.add_lit,cell_of_heap hb,zg1];rw [ints_get (by rw [hlen];exact hj2)] at hj;have e:so=s:=by omega
  rw [e,ints_get (by omega),← hj,List.getD_eq_getElem?_getD,List.getD_eq_getElem?_getD,List.getElem?_take_of_lt hj2,List.getElem?_drop]
theorem ints_cell {W:World} {b:Nat} {l:List Nat} (hb:W.heap[b]?=some (.cells (ints l).toArray 240)) {i:Nat} (hi:i < l.length):W.cell? ⟨b,i,none⟩=some (.int .i64 ((l.getD i 0:Nat):Int)):=by
 rw [cell_of_heap hb,zg1,ints_get hi]
theorem ints_store {W:World} {b:Nat} {l:List Nat} (hb:W.heap[b]?=some (.cells (ints l).toArray 240)) (i x:Nat):(W.setCell ⟨b,i,none⟩ (.int .i64 ((x:Nat):Int))).heap[b]?=some (.cells (ints (l.set i x)).toArray 240):=by
 rw [heap_set_same hb,ints_set]
theorem pw_step {n k x:Nat} {l:List Nat} (hn:n < 16) (hl:Nib l) (hk:k < l.length) (hl15:l.length=15) (hx:x=l.getD k 0):bits .or .u64 ((pw n (l.take k):Nat):Int) (IntKind.u64.wrap ((x:Int)*2 ^ (4+4*k)))=((pw n (l.take (k+1)):Nat):Int):=by
 have hkl:(l.take k).length=k:=by rw [List.length_take];omega
 have hn1:Nib (l.take k):=fun y hy=>hl y (List.mem_of_mem_take hy)
 have hxe:x=l[k]:=by rw [hx,List.getD_eq_getElem?_getD,List.getElem?_eq_getElem hk];rfl
 have hx16:x < 16:=by rw [hxe];exact hl _ (List.getElem_mem hk)
 have hor:=pw_or (x:=x) hn hn1
 rw [hkl] at hor
 have e1:l.take (k+1)=l.take k++[x]:=by rw [List.take_succ_eq_append_getElem hk,hxe]
 rw [← e1] at hor
 have hb1:=pw64 hn hn1 (by omega)
 have hpow:(2:Nat) ^ (4+4*k)=16 ^ (k+1):=by rw [show (16:Nat)=2 ^ 4 by decide,← Nat.pow_mul];congr 1;omega
 have hle:(16:Nat) ^ (k+1)≤16 ^ 15:=Nat.pow_le_pow_right (by decide) (by omega)
 have h15:(16:Nat) ^ 15=1152921504606846976:=by decide
 have hlt:x*16 ^ (k+1) < 18446744073709551616:=by
  have:x*16 ^ (k+1)≤15*16 ^ 15:=Nat.mul_le_mul (by omega) hle;omega
 have e2:(x:Int)*2 ^ (4+4*k)=((x*16 ^ (k+1):Nat):Int):=by
  rw [← hpow];simp
 rw [e2,IntKind.wrap_u64,show (((x*16 ^ (k+1):Nat):Int) % 18446744073709551616)=((x*16 ^ (k+1):Nat):Int) by generalize x*16 ^ (k+1)=y at *;omega,bits_or_u64_nat _ _ hb1 hlt,hor]
set_option maxRecDepth 100000 in
set_option maxHeartbeats 1000000 in
theorem pmMove_any (n : Nat) (o : List Nat) (h : PW n o) (a b : Nat) (ha : a < 15) (hb : b < 15) (w : World) :
    Calls Tryz.prog 142 #[.int .u64 (pw n o),.int .i64 a,.int .i64 b] w fun e w'=>e=.returned (.int .u64 (pw n (moveL o a b)))∧Below w.heap.size w w':=by
 obtain ⟨h1,h2,h3⟩:=h.nib
 have hAt:=qh fun (i:Nat) (hi:i < 15) W=>pmAt_any n o i h1 h2 h3 hi W
 have hmv:=qh (h.o.move ha hb)
 have hcs:=qh (move_copies h3 ha hb)
 have hms:=pw_mask h1 h2 (Nat.le_of_eq h3)
 have hPl:=qh fun (i:Nat) (hi:i < 15) W=>pmPlace_any i (by omega) W
 have hlx:=qh h3
 obtain ⟨p,hp⟩:∃ p,p=pw n o:=⟨_,rfl⟩
 rw [← hp] at hAt hms ⊢
 replace hp:=qh hp
 replace h:=qh h
 replace h1:=qh h1
 clear h2 h3
 have hB0:Below w.heap.size w (w.alloc (.cells (ints (List.replicate 15 0)).toArray 240)):=(Below.refl _ _).alloc (Nat.le_refl _) _
 have hx0:=heap_alloc_new w (.cells (ints (List.replicate 15 0)).toArray 240)
 go_enter Tryz.func142,Tryz.ntmps142
 go_upto_region 2 with fail
 change Code.wp _ _ _ _ (w.alloc (.cells (ints (List.replicate 15 0)).toArray 240))
 generalize w.alloc (.cells (ints (List.replicate 15 0)).toArray 240)=w1 at *
 obtain ⟨B,hB⟩:∃ B,B=w.heap.size:=⟨_,rfl⟩
 rw [← hB] at hx0 ⊢
 replace hB:=qh hB
 replace hB0:=qh hB0
 go_wp2_with fail
 go_loopg [13] 15 (fun gk v13 wr=>∃ (k:Nat) (l:List Nat),gk=15 - k∧k≤15∧v13=.int .i64 k∧l.length=15∧l.take k=o.take k∧wr.heap[B]?=some (.cells (ints l).toArray 240)∧Below w.heap.size w wr)
 case atStart=>exact ⟨0,List.replicate 15 0,rfl,Nat.zero_le _,rfl,by simp,rfl,hx0,hB0.out⟩
 case round =>
  obtain ⟨k,l,rfl,hk,rfl,hl,htk,hx,hb⟩:=hrel;clear hx0;by_cases hlt:k < 15
  ·have hA:=hAt.out k hlt wr
   have hw1:IntKind.i64.wrap ((k:Int)+1)=(k:Int)+1:=IntWalk.i64_in _ (by omega);have hk2:(k:Int) < 15:=by omega
   have hk0:(0:Int)≤(k:Int):=by omega
   have c0:=ints_cell hx (i:=k) (by omega);have f0:=frozen_of_heap hx k;have q0:=heap_lt hx;have hx2:=qh (ints_store hx k (o.getD k 0))
   have htk2:Hid ((l.set k (o.getD k 0)).take (k+1)=o.take (k+1)):=qh (by
    have hol:k < o.length:=by rw [hlx.out];omega
    rw [List.take_succ_eq_append_getElem (by rw [List.length_set];omega),List.take_succ_eq_append_getElem hol,List.take_set_of_le (Nat.le_refl _),htk,List.getElem_set_self];rw [List.getD_eq_getElem?_getD,List.getElem?_eq_getElem hol]
    rfl)
   obtain ⟨x,hxe⟩:∃ x,x=o.getD k 0:=⟨_,rfl⟩;rw [← hxe] at hA hx2 htk2;replace hxe:=qh hxe;replace hb:=qh hb;replace htk:=qh htk;replace hl:=qh hl;replace hx:=qh hx;go_wp2_with fail;refine hA.mono ?_;clear hA;rintro e w2 ⟨rfl,rfl⟩;go_wp2_with fail;go_roundg (15 - (k+1))
   case rel =>
    refine ⟨k+1,l.set k x,rfl,by omega,by go_num,by rw [List.length_set];exact hl.out,htk2.out,hx2.out,?_⟩;exact hb.out.trans (((Upd.refl [B] _).setCell (by simp) _).below hb.out.size (by simp [hB.out]))
   case measure=>omega
  ·obtain rfl:k=15:=by omega
   obtain rfl:l=o:=by rw [List.take_of_length_le (by omega),List.take_of_length_le (by rw [hlx.out];exact Nat.le_refl _)] at htk;exact htk
   have c0:=ints_cell hx (i:=a) (by omega);have q0:=heap_lt hx;have ga0:(0:Int)≤(a:Int):=by omega
   have ga1:(a:Int) < 15:=by omega
   have ga2:(a:Int)≤15:=by omega
   have ga3:IntKind.i64.wrap ((a:Int)+1)=(a:Int)+1:=IntWalk.i64_in _ (by omega);have ga4:(0:Int)≤(a:Int)+1:=by omega
   have ga5:(a:Int)+1≤15:=by omega
   have ga6:((a:Int)+1).toNat=a+1:=by omega
   obtain ⟨X,hX⟩:∃ X,X=l.getD a 0:=⟨_,rfl⟩;rw [← hX] at c0 hcs;replace hX:=qh hX;obtain ⟨L1,hL1⟩:∃ L1,L1=l.take a++l.drop (a+1)++l.drop 14:=⟨_,rfl⟩;rw [← hL1] at hcs;have hl1:L1.length=15:=by rw [hL1];simp;omega
   have hcp:Hid (∀ W,W.heap[B]?=some (.cells (ints l).toArray 240)→∀ so,(14 - a=0∨so=a+1)→(Builtin.copy_ #[241,241] 3 #[.slice (some ⟨B,a,none⟩) (15 - a) (15 - a),.slice (some ⟨B,so,none⟩) (14 - a) (14 - a)]).run Tryz.prog W=.ok (goInt (14 - a:Nat)) (W.setRow B (ints L1).toArray)):=qh fun W hW so hso=>by
    have:=copy_ints hW a (a+1) (14 - a) 3 (15 - a) (15 - a) (14 - a) (14 - a) so (by omega) hso (by omega) (by omega) a (.inr rfl) (by omega);rw [List.take_of_length_le (l:=l.drop (a+1)) (by rw [List.length_drop];omega),show a+(14 - a)=14 by omega,← hL1] at this;exact this
   replace hL1:=qh hL1;go_upto_region 8 with fail;go_cut [9] (fun v9 wz=>v9=.int .i64 X∧wz.heap[B]?=some (.cells (ints L1).toArray 240)∧Below w.heap.size w wz)
   case first =>
    replace hb:=qh hb;have gn:¬ 15=a:=by omega
    have hfin:Hid ((wr.drew.setRow B (ints L1).toArray).heap[B]?=some (.cells (ints L1).toArray 240)∧Below w.heap.size w (wr.drew.setRow B (ints L1).toArray)):=qh
     ⟨setRow_heap _ _ _ _ _ _ (show wr.drew.heap[B]?=_ from hx),hb.out.trans (((Upd.refl [B] wr).drew.setRow (by simp) _).below hb.out.size (by simp [hB.out]))⟩
    by_cases h14:a=14
    ·subst h14
     have hcp:(Builtin.copy_ #[241,241] 3 #[.slice (some ⟨B,14,none⟩) 1 1,.slice (some ⟨B,0,none⟩) 0 0]).run Tryz.prog wr.drew=.ok (goInt (0:Nat)) (wr.drew.setRow B (ints L1).toArray):=hcp.out wr.drew hx 0 (.inl rfl);have hw15:IntKind.i64.wrap (15:Int)=15:=by decide
     replace hx:=qh hx;go_region_law (refine step_copy_is rfl _ _ 241 241 rfl _ _ (by simp [Act.eval,Act.put]) (by simp [Act.eval,Act.put]) hcp ?_)
     all_goals
      go_wp2_with fail;go_meet;exact ⟨rfl,hfin.out⟩
    ·have hcp:=hcp.out wr.drew hx (a+1) (.inr rfl)
     replace hx:=qh hx;go_region_law (refine step_copy_is rfl _ _ 241 241 rfl _ _ (by simp [Act.eval,Act.put]) (by simp [Act.eval,Act.put]) hcp ?_)
     all_goals
      go_wp2_with fail;go_meet;exact ⟨rfl,hfin.out⟩
   case rest =>
    obtain ⟨rfl,hx1,hb1⟩:=hcut;obtain ⟨w2,hw2⟩:∃ w2,w2=wc:=⟨wc,rfl⟩;subst hw2;clear hx hb c0 q0 ga0 ga1 ga2 ga3 ga4 ga5 ga6 hcp;obtain ⟨L2,hL2⟩:∃ L2,L2=L1.take (b+1)++(L1.drop b).take (14 - b)++L1.drop 15:=⟨_,rfl⟩;rw [← hL2] at hcs;have hl2:L2.length=15:=by rw [hL2];simp;omega
    have hcp:Hid (∀ W,W.heap[B]?=some (.cells (ints L1).toArray 240)→∀ so,so≤15→(14 - b=0∨so=b+1)→(Builtin.copy_ #[241,241] 3 #[.slice (some ⟨B,so,none⟩) (14 - b) (14 - b),.slice (some ⟨B,b,none⟩) (14 - b) (15 - b)]).run Tryz.prog W=.ok (goInt (14 - b:Nat)) (W.setRow B (ints L2).toArray)):=qh fun W hW so hso2 hso=>by
     have:=copy_ints hW (b+1) b (14 - b) 3 (14 - b) (14 - b) (14 - b) (15 - b) b (by omega) (.inr rfl) (by omega) (by omega) so hso (by omega);rw [this,hL2];rcases hso with h0 | rfl
     ·have hb14:b=14:=by omega
      subst hb14
      congr 3
      have e1:L1.take (14+1)=L1:=List.take_of_length_le (by omega);rw [e1,show 14 - 14=0 by decide];simp [List.drop_eq_nil_of_le (show L1.length≤15 by omega)]
     ·rw [show b+1+(14 - b)=15 by omega]
    have gb0:(0:Int)≤(b:Int):=by omega
    have gb1:(b:Int) < 15:=by omega
    have gb2:(b:Int)≤14:=by omega
    have gb3:IntKind.i64.wrap ((b:Int)+1)=(b:Int)+1:=IntWalk.i64_in _ (by omega);have gb4:(0:Int)≤(b:Int)+1:=by omega
    have gb5:(b:Int)+1≤15:=by omega
    have gb6:((b:Int)+1).toNat=b+1:=by omega
    replace hL2:=qh hL2;go_upto_region 9 with fail;go_cut [9] (fun v9 wz=>v9=.int .i64 X∧wz.heap[B]?=some (.cells (ints L2).toArray 240)∧Below w.heap.size w wz)
    case first =>
     replace hb1:=qh hb1;have gn:¬ 15=b:=by omega
     have hfin:Hid ((w2.drew.setRow B (ints L2).toArray).heap[B]?=some (.cells (ints L2).toArray 240)∧Below w.heap.size w (w2.drew.setRow B (ints L2).toArray)):=qh
      ⟨setRow_heap _ _ _ _ _ _ (show w2.drew.heap[B]?=_ from hx1),hb1.out.trans (((Upd.refl [B] w2).drew.setRow (by simp) _).below hb1.out.size (by simp [hB.out]))⟩
     by_cases h14:b=14
     ·subst h14
      have hcp:(Builtin.copy_ #[241,241] 3 #[.slice (some ⟨B,0,none⟩) 0 0,.slice (some ⟨B,14,none⟩) 0 1]).run Tryz.prog w2.drew=.ok (goInt (0:Nat)) (w2.drew.setRow B (ints L2).toArray):=hcp.out w2.drew hx1 0 (by omega) (.inl rfl);have hw15:IntKind.i64.wrap (15:Int)=15:=by decide
      replace hx1:=qh hx1;go_region_law (refine step_copy_is rfl _ _ 241 241 rfl _ _ (by simp [Act.eval,Act.put]) (by simp [Act.eval,Act.put]) hcp ?_)
      all_goals
       go_wp2_with fail;go_meet;exact ⟨rfl,hfin.out⟩
     ·have hcp:=hcp.out w2.drew hx1 (b+1) (by omega) (.inr rfl)
      replace hx1:=qh hx1;go_region_law (refine step_copy_is rfl _ _ 241 241 rfl _ _ (by simp [Act.eval,Act.put]) (by simp [Act.eval,Act.put]) hcp ?_)
      all_goals
       go_wp2_with fail;go_meet;exact ⟨rfl,hfin.out⟩
    case rest =>
     obtain ⟨rfl,hx2,hb2⟩:=hcut;obtain ⟨w3,hw3⟩:∃ w3,w3=wc:=⟨wc,rfl⟩;subst hw3;clear hx1 hb1 hcp gb2 gb3 gb4 gb5 gb6;have c0:=ints_cell hx2 (i:=b) (by omega);have f0:=frozen_of_heap hx2 b;have q0:=heap_lt hx2;have hx3:=ints_store hx2 b X;rw [hcs.out] at hx3;have hb3:Below w.heap.size w (w3.setCell ⟨B,b,none⟩ (.int .i64 (X:Nat))):=hb2.trans (((Upd.refl [B] _).setCell (by simp) _).below hb2.size (by simp [hB.out]));obtain ⟨L3,hL3⟩:∃ L3,L3=moveL l a b:=⟨_,rfl⟩;rw [← hL3] at hx3 hmv;replace hL3:=qh hL3;have hrg:(w3.setCell ⟨B,b,none⟩ (.int .i64 (X:Nat))).rangeAt B 0 (ints L3):=fun j v hv=>by rw [Nat.zero_add,cell_of_heap hx3,zg1];exact hv
     have hix:∀ (k:Nat),k < 15→∀ W,(Instr.index 240 (.agg (ints L3).toArray) (.int .i64 (k:Int))).run Tryz.prog W=.ok (.int .i64 ((L3.getD k 0:Nat):Int)) W:=fun k hk W=>by
      have:=ints_get (l:=L3) (i:=k) (by rw [hmv.out.len];exact hk);have hp:=run_part_plain (P:=Tryz.prog) (e:=3) (by kernel_rfl) (w:=W) (off:=k) (xs:=(ints L3).toArray) (by rw [zg1];exact this);simp [Instr.index,asIntOf,hp];exact fun h=>absurd h (by omega)
     replace hix:=qh hix;obtain ⟨w4,hw4⟩:∃ w4,w4=w3.setCell ⟨B,b,none⟩ (.int .i64 (X:Nat)):=⟨_,rfl⟩;rw [← hw4] at hrg hb3;replace hrg:=qh hrg;replace hw4:=qh hw4;replace hx3:=qh hx3;replace hx2:=qh hx2;replace hb2:=qh hb2;replace hb3:=qh hb3;go_upto_region 11 with fail;rw [← hw4.out]
     go_wp2_with (refine wpList_load_mid rfl 240 (.tmp 7) rfl B 0 (by rfl) (ints L3) _ hrg.out Tryz.underlying240 rfl (by rw [ints_len,hmv.out.len];kernel_rfl) ?_)
     go_loopg [10,43] 15 (fun gk v10 v43 wr=>∃ (k:Nat),gk=15 - k∧k≤15∧v43=.int .i64 k∧v10=.int .u64 (pw n (L3.take k))∧wr=w4)
     case atStart=>exact ⟨0,rfl,Nat.zero_le _,rfl,by simp [pw,nibs],rfl⟩
     case round =>
      obtain ⟨k,rfl,hk,rfl,rfl,rfl⟩:=hrel;by_cases hlt:k < 15
      ·have hix1:=hix.out k hlt wr
       have hpl:=hPl.out k hlt wr;have hst:=pw_step (n:=n) (x:=L3.getD k 0) h1.out hmv.out.nib (k:=k) (by rw [hmv.out.len];exact hlt) hmv.out.len rfl
       have hx15:L3.getD k 0 < 15:=by
        rw [List.getD_eq_getElem?_getD,List.getElem?_eq_getElem (show k < L3.length by rw [hmv.out.len];exact hlt)];exact hmv.out.lt _ (List.getElem_mem _)
       obtain ⟨x,hxe⟩:∃ x,x=L3.getD k 0:=⟨_,rfl⟩;rw [← hxe] at hix1 hst hx15;have hw1:IntKind.i64.wrap ((k:Int)+1)=(k:Int)+1:=IntWalk.i64_in _ (by omega);have hk2:(k:Int) < 15:=by omega
       have hk4:(0:Int)≤((4+4*k:Nat):Int):=by omega
       have hxw:IntKind.u64.wrap (x:Int)=(x:Int):=by rw [IntKind.wrap_u64];omega
       obtain ⟨P1,hP1⟩:∃ P1,P1=pw n (L3.take (k+1)):=⟨_,rfl⟩;rw [← hP1] at hst;obtain ⟨P0,hP0⟩:∃ P0,P0=pw n (L3.take k):=⟨_,rfl⟩;rw [← hP0] at hst ⊢;replace hP1:=qh hP1;replace hP0:=qh hP0;replace hxe:=qh hxe;go_wp2_with fail;refine hpl.mono ?_;rintro e w5 ⟨rfl,rfl⟩;go_wp2_with fail;go_roundg (15 - (k+1))
       case rel=>exact ⟨k+1,rfl,by omega,by go_num,by rw [← hP1.out],rfl⟩
       case measure=>omega
      ·obtain rfl:k=15:=by omega
       have hf:L3.take 15=moveL l a b:=by rw [List.take_of_length_le (by rw [hmv.out.len];exact Nat.le_refl _)];exact hL3.out
       rw [hf];obtain ⟨P1,hP1⟩:∃ P1,P1=pw n (moveL l a b):=⟨_,rfl⟩;rw [← hP1];replace hP1:=qh hP1;go_wp2_with fail;go_ret;exact ⟨by rw [← hP1.out];simp,hb3.out⟩
open Go.RowKit M
theorem pw_inc {n:Nat} {l:List Nat} (hn:n+1 < 16) (hl:Nib l) (h15:l.length=15):IntKind.u64.wrap (((pw n l:Nat):Int)+1)=((pw (n+1) l:Nat):Int):=by
 have h:=pw64 hn hl (Nat.le_of_eq h15)
 have e:pw (n+1) l=pw n l+1:=by unfold pw;omega
 rw [e] at h ⊢
 rw [IntKind.wrap_u64]
 generalize pw n l=y at *
 omega
theorem pw_dec {n:Nat} {l:List Nat} (hn:n < 16) (h0:0 < n) (hl:Nib l) (h15:l.length=15):IntKind.u64.wrap (((pw n l:Nat):Int) - 1)=((pw (n - 1) l:Nat):Int):=by
 have h:=pw64 hn hl (Nat.le_of_eq h15)
 have e:pw n l=pw (n - 1) l+1:=by unfold pw;omega
 rw [e] at h ⊢
 rw [IntKind.wrap_u64]
 generalize pw (n - 1) l=y at *
 omega
set_option maxRecDepth 100000 in
theorem pmInsert_any (n : Nat) (o : List Nat) (i : Nat) (h : PW n o) (hi : i ≤ n) (w : World) :
    Calls Tryz.prog 112 #[.int .u64 (pw n o),.int .i64 i] w fun e w'=>e=.returned (.tuple #[.int .u64 (pw (n+1) (moveL o n i)),.int .i64 ((o.getD n 0:Nat):Int),.bool true])∧Below w.heap.size w w':=by
 obtain ⟨h1,h2,h3⟩:=h.nib
 have hn:=h.n
 have hLn:=qh fun W=>pmLen_any n o h1 h2 (Nat.le_of_eq h3) W
 have hRt:=qh fun W=>pmRight_any n o h W
 have hMv:=qh fun W=>pmMove_any n o h n i hn (by omega) W
 have hAt:=qh fun W=>pmAt_any n o n h1 h2 h3 hn W
 have hpm:Perm15 (moveL o n i):=h.o.move hn (by omega)
 have hin:=pw_inc (n:=n) (l:=moveL o n i) (by omega) hpm.nib hpm.len
 obtain ⟨x,hx⟩:∃ x,x=o.getD n 0:=⟨_,rfl⟩
 rw [← hx] at hAt ⊢
 obtain ⟨p,hp⟩:∃ p,p=pw n o:=⟨_,rfl⟩
 rw [← hp] at hLn hRt hMv hAt ⊢
 obtain ⟨P1,hP1⟩:∃ P1,P1=pw n (moveL o n i):=⟨_,rfl⟩
 rw [← hP1] at hin hMv
 obtain ⟨P2,hP2⟩:∃ P2,P2=pw (n+1) (moveL o n i):=⟨_,rfl⟩
 rw [← hP2] at hin ⊢
 replace hP1:=qh hP1
 replace hP2:=qh hP2
 replace hp:=qh hp
 replace hx:=qh hx
 have g1:¬ (15:Int)≤(n:Int):=by omega
 have g2:¬ (i:Int) < 0:=by omega
 have g3:¬ (n:Int) < (i:Int):=by omega
 clear hpm h h2 h3
 go_enter Tryz.func112,Tryz.ntmps112
 go_wp2_with fail
 refine (hLn.out w).mono ?_
 rintro e w1 ⟨rfl,rfl⟩
 go_wp2_with fail
 refine (hRt.out w).mono ?_
 rintro e w1 ⟨rfl,hb1⟩
 replace hb1:=qh hb1
 go_wp2_with fail
 refine (hMv.out w1).mono ?_
 rintro e w2 ⟨rfl,hb2⟩
 replace hb2:=qh (hb1.out.trans (hb2.mono hb1.out.size))
 go_wp2_with fail
 refine (hAt.out w2).mono ?_
 rintro e w3 ⟨rfl,rfl⟩
 go_wp2_with fail
 go_ret3
 exact ⟨by first | rfl | simp,hb2.out⟩
set_option maxRecDepth 100000 in
theorem pmRemove_any (n : Nat) (o : List Nat) (i : Nat) (h : PW n o) (hi : i < n) (w : World) :
    Calls Tryz.prog 117 #[.int .u64 (pw n o),.int .i64 i] w fun e w'=>e=.returned (.tuple #[.int .u64 (pw (n - 1) (moveL o i (n - 1))),.int .i64 ((o.getD i 0:Nat):Int),.bool true])∧Below w.heap.size w w':=by
 obtain ⟨h1,h2,h3⟩:=h.nib
 have hn:=h.n
 have hLn:=qh fun W=>pmLen_any n o h1 h2 (Nat.le_of_eq h3) W
 have hRt:=qh fun W=>pmRight_any n o h W
 have hMv:=fun W=>pmMove_any n o h i (n - 1) (by omega) (by omega) W
 have hAt:=qh fun W=>pmAt_any n o i h1 h2 h3 (by omega) W
 have hpm:Perm15 (moveL o i (n - 1)):=h.o.move (by omega) (by omega)
 have hin:=pw_dec (n:=n) (l:=moveL o i (n - 1)) h1 (by omega) hpm.nib hpm.len
 have hw:((n - 1:Nat):Int)=(n:Int) - 1:=by omega
 have hw2:IntKind.i64.wrap ((n:Int) - 1)=(n:Int) - 1:=IntWalk.i64_in _ (by omega)
 rw [hw] at hMv
 replace hMv:=qh hMv
 obtain ⟨x,hx⟩:∃ x,x=o.getD i 0:=⟨_,rfl⟩
 rw [← hx] at hAt ⊢
 obtain ⟨p,hp⟩:∃ p,p=pw n o:=⟨_,rfl⟩
 rw [← hp] at hLn hRt hMv hAt ⊢
 obtain ⟨P1,hP1⟩:∃ P1,P1=pw n (moveL o i (n - 1)):=⟨_,rfl⟩
 rw [← hP1] at hin hMv
 obtain ⟨P2,hP2⟩:∃ P2,P2=pw (n - 1) (moveL o i (n - 1)):=⟨_,rfl⟩
 rw [← hP2] at hin ⊢
 replace hP1:=qh hP1
 replace hP2:=qh hP2
 replace hp:=qh hp
 replace hx:=qh hx
 have g2:¬ (i:Int) < 0:=by omega
 have g3:¬ (n:Int)≤(i:Int):=by omega
 clear hpm h h2 h3 hw
 go_enter Tryz.func117,Tryz.ntmps117
 go_wp2_with fail
 refine (hLn.out w).mono ?_
 rintro e w1 ⟨rfl,rfl⟩
 go_wp2_with fail
 refine (hRt.out w).mono ?_
 rintro e w1 ⟨rfl,hb1⟩
 replace hb1:=qh hb1
 go_wp2_with fail
 refine (hMv.out w1).mono ?_
 rintro e w2 ⟨rfl,hb2⟩
 replace hb2:=qh (hb1.out.trans (hb2.mono hb1.out.size))
 go_wp2_with fail
 refine (hAt.out w2).mono ?_
 rintro e w3 ⟨rfl,rfl⟩
 go_wp2_with fail
 go_ret3
 exact ⟨by first | rfl | simp,hb2.out⟩
set_option maxRecDepth 100000 in
theorem pmEmpty_any (w:World):Calls Tryz.prog 132 #[] w fun e w'=>e=.returned (.int .u64 (pw 0 (List.range 15)))∧w=w':=by
 have hPl:=qh fun (i:Nat) (hi:i < 15) W=>pmPlace_any i (by omega) W
 have hnb:Nib (List.range 15):=fun x hx=>by have:=List.mem_range.1 hx;omega
 replace hnb:=qh hnb
 go_enter Tryz.func132,Tryz.ntmps132
 go_wp2_with fail
 go_loopg [1,3] 15 (fun gk v1 v3 wr=>∃ (k:Nat),gk=15 - k∧k≤15∧v3=.int .i64 k∧v1=.int .u64 (pw 0 ((List.range 15).take k))∧wr=w)
 case atStart=>exact ⟨0,rfl,Nat.zero_le _,rfl,rfl,rfl⟩
 case round =>
  obtain ⟨k,rfl,hk,rfl,rfl,rfl⟩:=hrel;by_cases hlt:k < 15
  ·have hpl:=hPl.out k hlt wr
   have hst:=pw_step (n:=0) (x:=k) (l:=List.range 15) (by decide) hnb.out (k:=k) (by simpa using hlt) (by simp) (by rw [List.getD_eq_getElem?_getD,List.getElem?_range hlt];rfl);have hw1:IntKind.i64.wrap ((k:Int)+1)=(k:Int)+1:=IntWalk.i64_in _ (by omega);have hk2:(k:Int) < 15:=by omega
   have hk4:(0:Int)≤((4+4*k:Nat):Int):=by omega
   have hxw:IntKind.u64.wrap (k:Int)=(k:Int):=by rw [IntKind.wrap_u64];omega
   obtain ⟨P1,hP1⟩:∃ P1,P1=pw 0 ((List.range 15).take (k+1)):=⟨_,rfl⟩;rw [← hP1] at hst;obtain ⟨P0,hP0⟩:∃ P0,P0=pw 0 ((List.range 15).take k):=⟨_,rfl⟩;rw [← hP0] at hst ⊢;replace hP1:=qh hP1;replace hP0:=qh hP0;go_wp2_with fail;refine hpl.mono ?_;rintro e w5 ⟨rfl,rfl⟩;go_wp2_with fail;go_roundg (15 - (k+1))
   case rel=>exact ⟨k+1,rfl,by omega,by go_num,by rw [← hP1.out],rfl⟩
   case measure=>omega
  ·obtain rfl:k=15:=by omega
   obtain ⟨P1,hP1⟩:∃ P1,P1=pw 0 (List.range 15):=⟨_,rfl⟩;rw [show (List.range 15).take 15=List.range 15 from List.take_of_length_le (by simp),← hP1];replace hP1:=qh hP1;go_wp2_with fail;go_ret;exact ⟨by rw [← hP1.out];simp,rfl⟩
open Go.RowKit M
namespace M
theorem bl_size (k:Str):(bl k).length=k.size:=rfl
theorem slice_from {k:Str} {q u:Byt} (h:bl k=q++u) {i:Int} (hi:i=q.length) (W:World):(Instr.slice 9 (.string k) (some (.int .i64 i)) none none).run Tryz.prog W=.ok (.string (bs u)) W:=by
 have hs:=bl_size k
 rw [h,List.length_append] at hs
 rw [run_slice_string_l (t:=9) (s:=k) (ht:=Tryz.underlying9) W .i64 i (by omega) (by omega)]
 congr 2
 apply bl_inj
 rw [bl_bs]
 show (k.extract i.toNat k.size).data.toList=u
 rw [ByteArray.data_extract,Array.toList_extract]
 show (bl k).extract i.toNat k.size=u
 rw [h,List.extract_eq_take_drop,hi,Int.toNat_natCast,List.drop_left]
 exact List.take_of_length_le (by omega)
theorem byte_at (s:Byt) (i:Nat) (hi:i < s.length) (W:World):(Instr.index 9 (.string (bs s)) (.int .i64 (i:Int))).run Tryz.prog W=.ok (.int .u8 ((s.getD i 0).toNat:Int)) W:=by
 have hz:(bs s).size=s.length:=by have:=bl_size (bs s);rw [bl_bs] at this;exact this.symm
 rw [run_index_string (h:=Tryz.underlying9),dif_pos ⟨by omega,by rw [hz];omega⟩]
 congr 3
 rw [List.getD_eq_getElem?_getD,List.getElem?_eq_getElem hi]
 simp [ByteArray.getElem_eq_getElem_data]
theorem be_or {n:Nat} {x:UInt8} (hn:n < 72057594037927936):bits .or .u64 ((n:Int)*256) ((x.toNat:Nat):Int)=((n*256+x.toNat:Nat):Int):=by
 have h2:=x.toNat_lt
 rw [show (n:Int)*256=((n*256:Nat):Int) by simp]
 rw [bits_or_u64_nat _ _ (by omega) (by omega)]
 have:=Nat.two_pow_add_eq_or_of_lt (i:=8) (b:=x.toNat) (by simpa using h2) n
 rw [show (2:Nat) ^ 8=256 by decide,Nat.mul_comm] at this
 rw [this]
end M
set_option maxRecDepth 100000 in
theorem kySlice_any (k : Str) (i : Nat) (hk : k.size ≤ 4611686018427387904) (hi : i ≤ 576460752303423488) (w : World) :
    Calls Tryz.prog 92 #[.string k,.int .i64 i] w fun e w'=>e=.returned (.tuple #[.int .u64 ((mkAt k i).s:Nat),.int .i64 ((mkAt k i).c:Nat)])∧Below w.heap.size w w':=by
 have hsz:=bl_size k
 have hw8:IntKind.i64.wrap ((i:Int)*8)=(i:Int)*8:=IntWalk.i64_in _ (by omega)
 by_cases hshort:k.size≤8*i
 ·have hp:keyAt k i=[]:=List.drop_eq_nil_of_le (by omega)
  have e1:((mkAt k i).s:Int)=0:=by show ((be (pad 8 (keyAt k i)):Nat):Int)=0;rw [hp,be_zeros];rfl
  have e2:((mkAt k i).c:Int)=0:=by show ((min (keyAt k i).length 9:Nat):Int)=0;rw [hp];rfl
  rw [e1,e2];have g0:¬ (i:Int) < 0:=by omega
  have g3:(k.size:Int)≤(i:Int)*8:=by omega
  clear e1 e2;by_cases hd:(k.size:Int) / 8 < (i:Int)
  ·go_enter Tryz.func92,Tryz.ntmps92
   go_wp2_with fail;go_ret2;exact ⟨rfl,Below.refl _ _⟩
  ·go_enter Tryz.func92,Tryz.ntmps92
   go_wp2_with fail;go_ret2;exact ⟨rfl,Below.refl _ _⟩
 ·have hg1:¬ (k.size:Int) / 8 < (i:Int):=by omega
  have hg2:¬ (k.size:Int)≤(i:Int)*8:=by omega
  have g0:¬ (i:Int) < 0:=by omega
  obtain ⟨R,hR⟩:∃ R,R=keyAt k i:=⟨_,rfl⟩;have hsl:=qh fun W=>slice_from (k:=k) (q:=(bl k).take (8*i)) (u:=R) (by rw [hR];exact (List.take_append_drop _ _).symm) (i:=(i:Int)*8) (by rw [List.length_take];omega) W
  have hRl:R.length=k.size - 8*i:=by rw [hR,List.length_drop,hsz]
  have hix:=qh fun (j:Nat) (hj:j < R.length) W=>byte_at R j hj W
  have hz:(bs R).size=R.length:=by have:=bl_size (bs R);rw [bl_bs] at this;exact this.symm
  have hpd:=qh fun (j:Nat)=>pad_snoc j R
  have hbe:=qh fun (j:Nat)=>be_snoc (pad j R) (R.getD j 0)
  have hbb:=qh fun (j:Nat)=>be_bound (pad j R)
  have hfin:Hid (mkAt k i=mkOf R):=qh (by rw [hR]);rw [hfin.out];have hc9:Hid (((mkOf R).c:Int)=min (R.length:Int) 9):=qh (by show ((min R.length 9:Nat):Int)=_;omega);obtain ⟨P8,hP8⟩:∃ P8,P8=(mkOf R).s:=⟨_,rfl⟩;obtain ⟨C8,hC8⟩:∃ C8:Nat,C8=(mkOf R).c:=⟨_,rfl⟩;rw [← hC8] at hc9;rw [← hP8,← hC8];replace hP8:=qh hP8;replace hC8:=qh hC8;obtain ⟨n,hn⟩:∃ n,n=R.length:=⟨_,rfl⟩;rw [← hn] at hRl hix hz hc9;replace hn:=qh hn;replace hR:=qh hR;have hn0:n≤4611686018427387904:=by omega
  have hk1:(i:Int)*8≤(k.size:Int):=by omega
  have hk0:(0:Int)≤(i:Int)*8:=by omega
  go_enter Tryz.func92,Tryz.ntmps92
  go_upto_region 3 with fail;have hsl1:=hsl.out w;go_wp2_with fail
  go_loopg [4,27] 8 (fun gk v4 v27 wr=>∃ (j:Nat),gk=8 - j∧j≤8∧v27=.int .i64 j∧v4=.int .u64 (be (pad j R):Nat)∧Below w.heap.size w wr)
  case atStart=>exact ⟨0,rfl,Nat.zero_le _,rfl,rfl,Below.refl _ _⟩
  case round =>
   obtain ⟨j,rfl,hj,rfl,rfl,hB⟩:=hrel;by_cases hlt:j < 8
   ·have hj2:(j:Int) < 8:=by omega
    have hw1:IntKind.i64.wrap ((j:Int)+1)=(j:Int)+1:=IntWalk.i64_in _ (by omega);have hb1:=hbb.out j;rw [pad_len] at hb1
    have hb2:be (pad j R) < 72057594037927936:=by
     have:256 ^ j≤256 ^ 7:=Nat.pow_le_pow_right (by decide) (by omega);have h7:(256:Nat) ^ 7=72057594037927936:=by decide
     omega
    have hnx:Hid (be (pad (j+1) R)=be (pad j R)*256+(R.getD j 0).toNat):=qh (by rw [hpd.out,hbe.out]);have hor:=be_or (x:=R.getD j 0) hb2
    have hgz:n≤j→R.getD j 0=0:=fun h=>by
     rw [List.getD_eq_getElem?_getD,List.getElem?_eq_none (by have:=hn.out;omega)];rfl
    have hix1:=hix.out j;obtain ⟨x,hx⟩:∃ x,x=R.getD j 0:=⟨_,rfl⟩;rw [← hx] at hnx hor hgz hix1;obtain ⟨P0,hP0⟩:∃ P0,P0=be (pad j R):=⟨_,rfl⟩;rw [← hP0] at hnx hor hb2 ⊢;have hsh:IntKind.u64.wrap ((P0:Int)*256)=((P0*256:Nat):Int):=by rw [IntKind.wrap_u64];omega
    replace hx:=qh hx;replace hP0:=qh hP0;replace hB:=qh hB;have hx2:=x.toNat_lt;clear hb1;by_cases hjn:j < n
    ·have hix2:=hix1 hjn wr
     have hj3:(j:Int) < (n:Int):=by omega
     have hxw:IntKind.u64.wrap ((x.toNat:Nat):Int)=((x.toNat:Nat):Int):=by rw [IntKind.wrap_u64];omega
     clear hix1 hgz;go_wp2_with fail;go_roundg (8 - (j+1))
     case rel=>exact ⟨j+1,rfl,by omega,by go_num,by rw [hnx.out];simp,hB.out⟩
     case measure=>omega
    ·have hj3:¬ (j:Int) < (n:Int):=by omega
     have hx0:=qh (hgz (by omega));clear hix1 hgz hor;go_wp2_with fail;go_roundg (8 - (j+1))
     case rel=>exact ⟨j+1,rfl,by omega,by go_num,by rw [hnx.out,hx0.out];simp,hB.out⟩
     case measure=>omega
   ·obtain rfl:j=8:=by omega
    obtain ⟨P0,hP0⟩:∃ P0,P0=be (pad 8 R):=⟨_,rfl⟩;rw [← hP0];have hPe:Hid (P8=P0):=qh (by rw [hP8.out,hP0];rfl);replace hP0:=qh hP0;replace hB:=qh hB;replace hRl:=qh hRl;by_cases h9:9≤n
    ·have hCe:Hid (C8=9):=qh (by have:=hc9.out;omega)
     have h91:¬ (n:Int) < 9:=by omega
     have h92:¬ (n:Int)≤8:=by omega
     have h93:(9:Int)≤(n:Int):=by omega
     go_wp2_with fail
     all_goals
      go_ret2;exact ⟨by rw [hPe.out,hCe.out];simp;try omega,hB.out⟩
    ·have hCe:Hid (C8=n):=qh (by have:=hc9.out;omega)
     have h91:(n:Int) < 9:=by omega
     have h93:¬ (9:Int)≤(n:Int):=by omega
     go_wp2_with fail
     all_goals
      go_ret2;exact ⟨by rw [hPe.out,hCe.out];simp;try omega,hB.out⟩
namespace M
theorem ube_get:∀ (K n j:Nat),j < K→(ube K n)[j]?=some (UInt8.ofNat (n / 256 ^ (K - 1 - j)))
 | 0,_,_,h=>by omega
 | K+1,n,0,_=>by simp [ube]
 | K+1,n,j+1,h=>by
  show (ube K n)[j]?=_
  rw [ube_get K n j (by omega)]
  congr 4
  omega
def bytesV (L:Byt):List Value:=L.map fun x=>.int .u8 ((x.toNat:Nat):Int)
theorem bytesV_get {L:Byt} {i:Nat} (h:i < L.length):(bytesV L)[i]?=some (.int .u8 (((L.getD i 0).toNat:Nat):Int)):=by
 unfold bytesV
 rw [List.getElem?_map,List.getElem?_eq_getElem h,List.getD_eq_getElem?_getD,List.getElem?_eq_getElem h]
 rfl
theorem bytesV_set (L:Byt) (i:Nat) (x:UInt8):(bytesV L).toArray.setIfInBounds i (.int .u8 ((x.toNat:Nat):Int))=(bytesV (L.set i x)).toArray:=by
 simp [bytesV,List.map_set]
end M
theorem byte_info:∃ i0:TypeInfo,Tryz.prog.info? 5=some i0∧i0.zero=some (.int .u8 0)∧i0.size=1∧i0.bytes=1:=info_parts (show (Tryz.prog.info? 5).map (fun i=>(i.zero,i.size,i.bytes))=some (some (.int .u8 0),1,1) by kernel_rfl)
theorem made_bytes (n:Nat):madeCells (Value.cells (.int .u8 0)) (n*1)=(bytesV (List.replicate n 0)).toArray:=by
 rw [Nat.mul_one]
 refine Array.ext (by simp [madeCells,bytesV]) fun i h1 h2=>?_
 simp [madeCells,bytesV,Value.cells,Nat.mod_one]
theorem make_bytes (n:Nat) (hn:n < 1000) (W:World):(Instr.makeSlice 23 (.int .i64 n) (.int .i64 n)).run Tryz.prog W=.ok (.slice (some ⟨W.heap.size,0,none⟩) n n) (W.alloc (.cells (bytesV (List.replicate n 0)).toArray 5)):=by
 obtain ⟨i0,h1,h2,h3,h4⟩:=byte_info
 have:=run_make (P:=Tryz.prog) W 23 5 i0 _ Tryz.underlying23 h1 h2 .i64 .i64 n n (by omega) (Int.le_refl _) (by rw [h4];omega) (by omega)
 rw [Int.toNat_natCast,h3,made_bytes] at this
 exact this
theorem bytesV_cell {W:World} {b:Nat} {l:Byt} {t:TypeId} (hb:W.heap[b]?=some (.cells (bytesV l).toArray t)) {i:Nat} (hi:i < l.length):W.cell? ⟨b,i,none⟩=some (.int .u8 (((l.getD i 0).toNat:Nat):Int)):=by
 rw [cell_of_heap hb,zg1,bytesV_get hi]
theorem shr_u8 {s j:Nat} (hj:j < 8):IntKind.u8.wrap ((s:Int) / 2 ^ (8*(7 - j)))=(((UInt8.ofNat (s / 256 ^ (8 - 1 - j))).toNat:Nat):Int):=by
 have e:(s:Int) / 2 ^ (8*(7 - j))=((s / 256 ^ (7 - j):Nat):Int):=by
  rw [Int.natCast_ediv,show (256:Nat)=2 ^ 8 by decide,← Nat.pow_mul];simp
 rw [e,IntKind.wrap_u8,UInt8.toNat_ofNat',show 8 - 1 - j=7 - j by omega]
 generalize s / 256 ^ (7 - j)=y
 omega
set_option maxRecDepth 100000 in
theorem kyUnslice_any (s c : Nat) (h1 : 1 ≤ c) (hc : c ≤ 9) (w : World) :
    Calls Tryz.prog 104 #[.int .u64 s,.int .i64 c] w fun e w'=>e=.returned (.string (bs ((ube 8 s).take (min c 8))))∧Below w.heap.size w w':=by
 obtain ⟨m,hm⟩:∃ m,m=min c 8:=⟨_,rfl⟩
 rw [← hm]
 have hm1:1≤m∧m≤8:=by omega
 have g1:¬ (c:Int) < 1:=by omega
 have g2:¬ (9:Int) < (c:Int):=by omega
 have hug:=qh fun (j:Nat) (hj:j < 8)=>ube_get 8 s j hj
 have hul:=qh (ube_len 8 s)
 have hm2:=qh hm
 go_enter Tryz.func104,Tryz.ntmps104
 go_upto_region 3 with fail
 go_cut [5] (fun v5 wz=>v5=.slice (some ⟨w.heap.size,0,none⟩) m m∧wz=w.alloc (.cells (bytesV (List.replicate m 0)).toArray 5))
 case first =>
  by_cases h8:c < 8
  ·have hmk:=make_bytes c (by omega) w
   obtain rfl:m=c:=by omega
   have e1:¬ (8:Int) < (m:Int):=by omega
   have e2:(m:Int) < 8:=by omega
   have e3:(m:Int)≤8:=by omega
   have e4:¬ (8:Int)≤(m:Int):=by omega
   replace hm:=qh hm;go_wp2_with fail
   all_goals
    go_meet;exact ⟨rfl,rfl⟩
  ·have hmk:(Instr.makeSlice 23 (.int .i64 8) (.int .i64 8)).run Tryz.prog w=.ok (.slice (some ⟨w.heap.size,0,none⟩) 8 8) (w.alloc (.cells (bytesV (List.replicate 8 0)).toArray 5)):=make_bytes 8 (by omega) w
   obtain rfl:m=8:=by omega
   have e1:(8:Int)≤(c:Int):=by omega
   have e4:¬ (c:Int) < 8:=by omega
   replace hm:=qh hm;rcases Nat.lt_or_ge 8 c with h9 | h9
   ·have e5:(8:Int) < (c:Int):=by omega
    have e6:¬ (c:Int)≤8:=by omega
    go_wp2_with fail
    all_goals
     go_meet;exact ⟨rfl,rfl⟩
   ·obtain rfl:c=8:=by omega
    go_wp2_with fail
    all_goals
     go_meet;exact ⟨rfl,rfl⟩
 case rest =>
  obtain ⟨rfl,hw1⟩:=hcut;have hB0:Below w.heap.size w wc:=by rw [hw1];exact (Below.refl _ _).alloc (Nat.le_refl _) _
  have hx0:wc.heap[w.heap.size]?=some (.cells (bytesV (List.replicate m 0)).toArray 5):=by rw [hw1];exact heap_alloc_new _ _
  obtain ⟨w2,hw2⟩:∃ w2,w2=wc:=⟨wc,rfl⟩;subst hw2;clear hw1;obtain ⟨B,hB⟩:∃ B,B=w.heap.size:=⟨_,rfl⟩;rw [← hB] at hx0 ⊢;replace hB:=qh hB;replace hB0:=qh hB0;replace hm:=qh hm;have hmx:(m:Int)≤8:=by omega
  go_wp2_with fail
  go_loopg [18] m (fun gk v18 wr=>∃ (j:Nat) (l:Byt),gk=m - j∧j≤m∧v18=.int .i64 j∧l.length=m∧l.take j=(ube 8 s).take j∧wr.heap[B]?=some (.cells (bytesV l).toArray 5)∧Below w.heap.size w wr)
  case atStart=>exact ⟨0,List.replicate m 0,rfl,Nat.zero_le _,rfl,by simp,rfl,hx0,hB0.out⟩
  case round =>
   obtain ⟨j,l,rfl,hj,rfl,hl,htk,hx,hb⟩:=hrel;clear hx0;by_cases hlt:j < m
   ·have hj2:(j:Int) < (m:Int):=by omega
    have hj0:(0:Int)≤(j:Int):=by omega
    have hw1:IntKind.i64.wrap ((j:Int)+1)=(j:Int)+1:=IntWalk.i64_in _ (by omega);have hw7:IntKind.i64.wrap (7 - (j:Int))=7 - (j:Int):=IntWalk.i64_in _ (by omega);have hw8:IntKind.i64.wrap (8*(7 - (j:Int)))=8*(7 - (j:Int)):=IntWalk.i64_in _ (by omega);have hn0:(0:Int)≤8*(7 - (j:Int)):=by omega
    have hnn:¬ 8*(7 - (j:Int)) < 0:=by omega
    have htn:(8*(7 - (j:Int))).toNat=8*(7 - j):=by omega
    have hmin:min (8*(7 - j)) 64=8*(7 - j):=by omega
    have hsh:=shr_u8 (s:=s) (j:=j) (by omega);have c0:=bytesV_cell hx (i:=j) (by omega);have f0:=frozen_of_heap hx j;have q0:=heap_lt hx;obtain ⟨x,hxe⟩:∃ x,x=UInt8.ofNat (s / 256 ^ (8 - 1 - j)):=⟨_,rfl⟩;rw [← hxe] at hsh;have hx2:Hid ((wr.setCell ⟨B,j,none⟩ (.int .u8 ((x.toNat:Nat):Int))).heap[B]?=some (.cells (bytesV (l.set j x)).toArray 5)):=qh (by rw [heap_set_same hx,bytesV_set])
    have htk2:Hid ((l.set j x).take (j+1)=(ube 8 s).take (j+1)):=qh (by
     have hul2:=hul.out;rw [List.take_succ_eq_append_getElem (by rw [List.length_set];omega),List.take_succ_eq_append_getElem (l:=ube 8 s) (by omega),List.take_set_of_le (Nat.le_refl _),htk,List.getElem_set_self]
     congr 2
     have h1:=hug.out j (by omega);rw [List.getElem?_eq_getElem (by omega)] at h1;injection h1 with h1
     rw [h1,hxe])
    replace hxe:=qh hxe;replace hb:=qh hb;replace htk:=qh htk;replace hl:=qh hl;replace hx:=qh hx;go_wp2_with fail;go_roundg (m - (j+1))
    case rel =>
     refine ⟨j+1,l.set j x,rfl,by omega,by go_num,by rw [List.length_set];exact hl.out,htk2.out,hx2.out,?_⟩;exact hb.out.trans (((Upd.refl [B] _).setCell (by simp) _).below hb.out.size (by simp [hB.out]))
    case measure=>omega
   ·obtain rfl:j=m:=by omega
    obtain rfl:l=(ube 8 s).take j:=by rw [List.take_of_length_le (by omega)] at htk;exact htk
    have hcv:(convert 23 9 (.slice (some ⟨B,0,none⟩) j j)).run Tryz.prog wr=.ok (.string (bs ((ube 8 s).take j))) wr:=by
     have:=run_convert_bytes_back (P:=Tryz.prog) wr 23 9 5 ⟨B,0,none⟩ j ((ube 8 s).take j) Tryz.underlying23 Tryz.underlying5 Tryz.underlying9 (fun i hi=>by
      rw [Addr.add_lit,Nat.zero_add,bytesV_cell hx hi,List.getD_eq_getElem?_getD,List.getElem?_eq_getElem hi]
      rfl)
     rw [hl] at this;exact this
    replace hx:=qh hx;replace hl:=qh hl;replace hb:=qh hb;obtain ⟨Z,hZ⟩:∃ Z,Z=bs ((ube 8 s).take j):=⟨_,rfl⟩;rw [← hZ] at hcv;replace hZ:=qh hZ;go_wp2_with fail;go_ret;exact ⟨by rw [hZ.out];rfl,hb.out⟩
open Go.RowKit M
namespace M
abbrev mkV (m:Mk):Value:=.agg #[.int .u64 ((m.s:Nat):Int),.int .u8 ((m.c:Nat):Int)]
def slc (s:Sl):List Value:=[.int .u64 ((s.m.s:Nat):Int),.int .u8 ((s.m.c:Nat):Int),.string s.rest,.string s.val,.bool s.deep,.int .i64 s.link.1,.int .u64 s.link.2]
abbrev slV (s:Sl):Value:=.agg #[.int .u64 ((s.m.s:Nat):Int),.int .u8 ((s.m.c:Nat):Int),.string s.rest,.string s.val,.bool s.deep,.int .i64 s.link.1,.int .u64 s.link.2]
end M
theorem box2 {w:World} {b:Nat} {x y:Value} {t:TypeId} (h:w.heap[b]?=some (.cells #[x,y] t)):w.cell? ⟨b,0,none⟩=some x∧w.cell? ⟨b,1,none⟩=some y∧b < w.heap.size∧w.frozen? ⟨b,0,none⟩=false∧w.frozen? ⟨b,1,none⟩=false:=by
 refine ⟨?_,?_,heap_lt h,frozen_of_heap h _,frozen_of_heap h _⟩ <;> rw [cell_of_heap h] <;> rfl
theorem mkOf_any (k : Str) (i : Nat) (hk : k.size ≤ 4611686018427387904) (hi : i ≤ 576460752303423488) (w : World) :
    Calls Tryz.prog 51 #[.string k,.int .i64 i] w fun e w'=>e=.returned (mkV (mkAt k i))∧Below w.heap.size w w':=by
 have hS:=qh fun W=>kySlice_any k i hk hi W
 have hc:(mkAt k i).c≤9:=by show min _ 9≤9;omega
 unfold mkV
 obtain ⟨S,hS'⟩:∃ S,S=(mkAt k i).s:=⟨_,rfl⟩
 obtain ⟨C,hC⟩:∃ C,C=(mkAt k i).c:=⟨_,rfl⟩
 rw [← hC] at hc
 rw [← hS',← hC] at hS ⊢
 have hw:IntKind.u8.wrap (C:Int)=(C:Int):=by rw [IntKind.wrap_u8];omega
 replace hS':=qh hS'
 replace hC:=qh hC
 go_enter Tryz.func51,Tryz.ntmps51
 go_wp2_with fail
 refine (hS.out _).mono ?_
 rintro e w1 ⟨rfl,hb⟩
 obtain ⟨y0,y1,yq,f0,f1⟩:=box2 (Below.heap' hb (heap_alloc_new w (.cells #[.int .u64 0,.int .u8 0] 90)))
 have hB:=qh (((Below.refl w.heap.size w).alloc (Nat.le_refl _) (.cells #[.int .u64 0,.int .u8 0] 90)).trans (hb.mono (by simp)))
 have hz:=heap_set_same (heap_set_same (Below.heap' hb (heap_alloc_new w (.cells #[.int .u64 0,.int .u8 0] 90))) 0 (.int .u64 ((S:Nat):Int))) 1 (.int .u8 ((C:Nat):Int))
 obtain ⟨z0,z1,_,_,_⟩:=box2 hz
 have hfin:Hid (Below w.heap.size w ((w1.setCell ⟨w.heap.size,0,none⟩ (.int .u64 ((S:Nat):Int))).setCell ⟨w.heap.size,1,none⟩ (.int .u8 ((C:Nat):Int)))):=qh (hB.out.trans ((((Upd.refl [w.heap.size] w1).setCell (p:=⟨w.heap.size,0,none⟩) (by simp) _).setCell (p:=⟨w.heap.size,1,none⟩) (by simp) _).below hB.out.size (by simp)))
 replace hz:=qh hz
 clear hb
 go_wp2_with fail
 refine bodyPost_ret (v:=.agg #[.int .u64 ((S:Nat):Int),.int .u8 ((C:Nat):Int)]) (by simp [results,Tryz.results51,go_sem,z0,z1]) rfl ⟨rfl,hfin.out⟩
theorem lt_int (a b:Mk):a.lt b=(decide ((a.s:Int) < (b.s:Int)) || (decide ((a.s:Int)=(b.s:Int)) && decide ((a.c:Int) < (b.c:Int)))):=by
 unfold Mk.lt
 congr 1
 ·simp
 ·congr 1
  ·simp [Int.natCast_inj]
  ·simp
theorem mkLess_any (a b:Mk) (w:World):Calls Tryz.prog 100 #[mkV a,mkV b] w fun e w'=>e=.returned (.bool (a.lt b))∧Below w.heap.size w w':=by
 rw [lt_int]
 unfold mkV
 obtain ⟨s1,c1⟩:=a
 obtain ⟨s2,c2⟩:=b
 simp only
 have hB:=qh (((Below.refl w.heap.size w).alloc (Nat.le_refl _) (.cells #[.int .u64 ((s1:Nat):Int),.int .u8 ((c1:Nat):Int)] 90)).alloc (by simp) (.cells #[.int .u64 ((s2:Nat):Int),.int .u8 ((c2:Nat):Int)] 90))
 by_cases h1:(s1:Int) < (s2:Int)
 ·go_enter Tryz.func100,Tryz.ntmps100
  go_wp2_with fail;go_ret;exact ⟨by simp [h1],hB.out⟩
 ·by_cases h2:s1=s2
  ·subst h2
   go_enter Tryz.func100,Tryz.ntmps100
   go_wp2_with fail;go_ret;exact ⟨by simp,hB.out⟩
  ·have h3:((s1:Int) == (s2:Int))=false:=by simp [Int.natCast_inj,h2]
   have h4:¬ (s1:Int)=(s2:Int):=by omega
   rw [decide_eq_false h1,decide_eq_false h4]
   go_enter Tryz.func100,Tryz.ntmps100
   go_wp2_with fail;go_ret;exact ⟨by simp,hB.out⟩
theorem mkText_any (m:Mk) (hm:MkOK m) (w:World):Calls Tryz.prog 97 #[mkV m] w fun e w'=>e=.returned (.string (mT m))∧Below w.heap.size w w':=by
 have hU:=qh fun W=>kyUnslice_any m.s 8 (by omega) (by omega) W
 have hc:=hm.c
 have hfin:Hid (mT m=bs ((ube 8 m.s).take (min 8 8))++bs [UInt8.ofNat m.c]):=qh (bl_inj (by
  rw [bl_app,bl_bs,bl_bs,bl_bs,List.take_of_length_le (by rw [ube_len];decide)]
  rfl))
 unfold mkV
 obtain ⟨S,C⟩:=m
 simp only at hU hc hfin ⊢
 obtain ⟨Z,hZ⟩:∃ Z,Z=bs ((ube 8 S).take (min 8 8)):=⟨_,rfl⟩
 rw [← hZ] at hU hfin
 obtain ⟨Y,hY⟩:∃ Y,Y=mT ⟨S,C⟩:=⟨_,rfl⟩
 rw [← hY] at hfin ⊢
 replace hZ:=qh hZ
 replace hY:=qh hY
 have hB:=qh ((Below.refl w.heap.size w).alloc (Nat.le_refl _) (.cells #[.int .u64 ((S:Nat):Int),.int .u8 ((C:Nat):Int)] 90))
 have hcb:Hid (∀ b (W:World),W.heap[b]?=some (.cells #[.int .u8 ((C:Nat):Int)] 5)→(convert 23 9 (.slice (some ⟨b,0,none⟩) 1 1)).run Tryz.prog W=.ok (.string (bs [UInt8.ofNat C])) W):=qh fun b W hW=>by
  refine run_convert_bytes_back (P:=Tryz.prog) _ 23 9 5 ⟨b,0,none⟩ 1 [UInt8.ofNat C] Tryz.underlying23 Tryz.underlying5 Tryz.underlying9 (fun j hj=>?_);have:j=0:=by simpa using hj
  subst this
  show W.cell? ⟨b,0,none⟩=_
  rw [cell_of_heap hW];simp;omega
 obtain ⟨X,hX⟩:∃ X,X=bs [UInt8.ofNat C]:=⟨_,rfl⟩
 have hno:¬ 9223372036854775807 < Z.size+X.size:=by
  have h1:Z.size=8:=by rw [hZ.out,← bl_size,bl_bs,List.length_take,ube_len];rfl
  have h2:X.size=1:=by rw [hX,← bl_size,bl_bs];rfl
  omega
 rw [← hX] at hfin hcb
 replace hX:=qh hX
 obtain ⟨v0,v1,vq,g0,g1⟩:=box2 (heap_alloc_new w (.cells #[.int .u64 ((S:Nat):Int),.int .u8 ((C:Nat):Int)] 90))
 go_enter Tryz.func97,Tryz.ntmps97
 go_wp2_with fail
 obtain ⟨w1,hw1⟩:∃ x,x=w.alloc (.cells #[.int .u64 ((S:Nat):Int),.int .u8 ((C:Nat):Int)] 90):=⟨_,rfl⟩
 rw [← hw1] at hB v0 v1 vq g0 g1 ⊢
 replace hw1:=qh hw1
 refine wp_region_held_drew (S:=fun W'=>W'.cell? ⟨w.heap.size,0,none⟩=some (.int .u64 ((S:Nat):Int))∧W'.cell? ⟨w.heap.size,1,none⟩=some (.int .u8 ((C:Nat):Int))) rfl ⟨v0,v1⟩ (fun hHeld=>?_)
 refine tkL 0 ?_
 refine tkL 1 ?_ (hz:=by rintro w ⟨i1,i2⟩;exact zf)
 refine tkL 3 ?_
 refine tkL 4 ?_ (hz:=by rintro w ⟨i1,i2⟩;exact zf)
 refine wpAnyH_ready (rs:=[2,5]) (by kernel_rfl) (by simp) ?_
 refine (AllReadyH.cons rfl (fun K hK=>?_) (AllReadyH.cons rfl (fun K hK=>?_) AllReadyH.nil))
 ·skip
  have hb0:=(Below.refl w1.heap.size w1).drew;go_simp;go_at_call 104;refine (hU.out _).mono ?_;rintro z w3 ⟨rfl,hb3⟩;have hb5:=hb0.trans (hb3.mono hb0.size);have hS1:=And.intro (keep hb5 v0) (keep hb5 v1);replace hb3:=qh hb3;go_wp2_with fail;refine hK.out _ _ hS1 (fun _=>?_);clear hHeld hK K;have hHeld:=hS1;clear hS1
  try simp only [Act.put,zs1,zs2,zs3]
  refine rdL 5 ?_;intro K hK;go_simp;have hb6:=hb5.alloc hb5.size (.cells #[.int .u8 ((C:Nat):Int)] 5);have kk:=heap_alloc_new w3 (.cells #[.int .u8 ((C:Nat):Int)] 5);generalize w3.alloc (.cells #[.int .u8 ((C:Nat):Int)] 5)=w6 at *;generalize w3.heap.size=bb at *;have hS1:=And.intro (keep hb6 v0) (keep hb6 v1);refine hK.out _ _ hS1 (fun _=>?_);clear hHeld hK K;have hHeld:=hS1;clear hS1
  try simp only [Act.put,zs1,zs2,zs3]
  refine rdL 6 ?_;intro K hK;have cc:=hcb.out bb w6 kk;replace kk:=qh kk;go_simp
  try go_wp2_with fail
  have hS1:=And.intro (keep hb6 v0) (keep hb6 v1);refine hK.out _ _ hS1 (fun _=>?_);clear hHeld hK K;have hHeld:=hS1;clear hS1
  try simp only [Act.put,zs1,zs2,zs3]
  clear cc;replace kk:=kk.out;refine tkL 7 ?_;refine tkL 8 ?_;refine wpAnyH_done (by kernel_rfl) ?_ _;simp only [Exit.then];go_wp2_with fail;go_ret;exact ⟨by rw [hfin.out];rfl,hB.out.trans (hb6.mono (Nat.le_of_lt vq))⟩
 ·skip
  go_simp;have hb5:=((Below.refl w1.heap.size w1).alloc (Nat.le_refl _) (.cells #[.int .u8 ((C:Nat):Int)] 5)).drew;have kk:(w1.alloc (.cells #[.int .u8 ((C:Nat):Int)] 5)).drew.heap[w1.heap.size]?=_:=heap_alloc_new w1 (.cells #[.int .u8 ((C:Nat):Int)] 5);generalize (w1.alloc (.cells #[.int .u8 ((C:Nat):Int)] 5)).drew=w3 at *;obtain ⟨bb,hbb⟩:∃ bb,bb=w1.heap.size:=⟨_,rfl⟩;rw [← hbb] at kk ⊢;replace hbb:=qh hbb;have hS1:=And.intro (keep hb5 v0) (keep hb5 v1);refine hK.out _ _ hS1 (fun _=>?_);clear hHeld hK K;have hHeld:=hS1;clear hS1
  try simp only [Act.put,zs1,zs2,zs3]
  refine wpAnyH_ready (rs:=[2,6]) (by kernel_rfl) (by simp) ?_;refine (AllReadyH.cons rfl (fun K hK=>?_) (AllReadyH.cons rfl (fun K hK=>?_) AllReadyH.nil))
  ·skip
   go_simp;go_at_call 104;refine (hU.out _).mono ?_;rintro z w6 ⟨rfl,hb3⟩;have hb6:=hb5.trans (hb3.mono hb5.size);have hS1:=And.intro (keep hb6 v0) (keep hb6 v1);replace kk:=Below.heap' hb3 kk;replace hb3:=qh hb3;replace kk:=qh kk;go_wp2_with fail;refine hK.out _ _ hS1 (fun _=>?_);clear hHeld hK K;have hHeld:=hS1;clear hS1
   try simp only [Act.put,zs1,zs2,zs3]
   replace kk:=kk.out;refine rdL 6 ?_;intro K hK;have cc:=hcb.out bb w6 kk;replace kk:=qh kk;go_simp
   try go_wp2_with fail
   have hS1:=And.intro (keep hb6 v0) (keep hb6 v1);refine hK.out _ _ hS1 (fun _=>?_);clear hHeld hK K;have hHeld:=hS1;clear hS1
   try simp only [Act.put,zs1,zs2,zs3]
   clear cc;replace kk:=kk.out;refine tkL 7 ?_;refine tkL 8 ?_;refine wpAnyH_done (by kernel_rfl) ?_ _;simp only [Exit.then];go_wp2_with fail;go_ret;exact ⟨by rw [hfin.out];rfl,hB.out.trans (hb6.mono (Nat.le_of_lt vq))⟩
  ·skip
   have cc:=hcb.out bb w3 kk;replace kk:=qh kk;go_simp
   try go_wp2_with fail
   have hS1:=And.intro (keep hb5 v0) (keep hb5 v1);refine hK.out _ _ hS1 (fun _=>?_);clear hHeld hK K;have hHeld:=hS1;clear hS1
   try simp only [Act.put,zs1,zs2,zs3]
   clear cc;replace kk:=kk.out;refine rdL 2 ?_;intro K hK;go_simp;go_at_call 104;refine (hU.out _).mono ?_;rintro z w6 ⟨rfl,hb3⟩;have hb6:=hb5.trans (hb3.mono hb5.size);have hS1:=And.intro (keep hb6 v0) (keep hb6 v1);replace hb3:=qh hb3;replace kk:=qh kk;go_wp2_with fail;refine hK.out _ _ hS1 (fun _=>?_);clear hHeld hK K;have hHeld:=hS1;clear hS1
   try simp only [Act.put,zs1,zs2,zs3]
   refine tkL 7 ?_;refine tkL 8 ?_;refine wpAnyH_done (by kernel_rfl) ?_ _;simp only [Exit.then];go_wp2_with fail;go_ret;exact ⟨by rw [hfin.out];rfl,hB.out.trans (hb6.mono (Nat.le_of_lt vq))⟩
theorem mkRight_any (m:Mk) (hm:MkOK m) (w:World):Calls Tryz.prog 135 #[mkV m] w fun e w'=>e=.returned (.bool true)∧Below w.heap.size w w':=by
 have hc:=hm.c
 have hs:=hm.s
 have hz:=hm.z
 clear hm
 unfold mkV
 obtain ⟨S,C⟩:=m
 simp only at hc hs hz ⊢
 have hB:=qh ((Below.refl w.heap.size w).alloc (Nat.le_refl _) (.cells #[.int .u64 ((S:Nat):Int),.int .u8 ((C:Nat):Int)] 90))
 by_cases h8:8≤C
 ·have e1:(8:Int)≤(C:Int):=by omega
  have e2:(C:Int)≤9:=by omega
  go_enter Tryz.func135,Tryz.ntmps135
  go_wp2_with fail;go_ret;exact ⟨by simp,hB.out⟩
 ·have e1:¬ (8:Int)≤(C:Int):=by omega
  have e3:IntKind.u8.wrap (8*(C:Int))=8*(C:Int):=by rw [IntKind.wrap_u8];omega
  have hsh:IntKind.u64.wrap ((S:Int)*2 ^ (8*C))=0:=by
   obtain ⟨q,hq⟩:=Nat.dvd_of_mod_eq_zero (hz (by omega))
   have hp:(256 ^ (8 - C))*2 ^ (8*C)=2 ^ 64:=by
    rw [show (256:Nat)=2 ^ 8 from rfl,← Nat.pow_mul,← Nat.pow_add]
    congr 1
    omega
   have:S*2 ^ (8*C)=2 ^ 64*q:=by rw [hq,Nat.mul_assoc,Nat.mul_comm q,← Nat.mul_assoc,hp]
   rw [IntKind.wrap_u64];have h2:(S:Int)*2 ^ (8*C)=((2 ^ 64*q:Nat):Int):=by rw [← this];push_cast;rfl
   rw [h2];omega
  clear hz
  go_enter Tryz.func135,Tryz.ntmps135
  go_wp2_with fail;go_ret;exact ⟨by simp,hB.out⟩
open Go.RowKit M
theorem box7 {w : World} {b : Nat} {v0 v1 v2 v3 v4 v5 v6 : Value} {t : TypeId} (h : w.heap[b]? = some (.cells #[v0, v1, v2, v3, v4, v5, v6] t)) :
    w.cell? ⟨b,0,none⟩=some v0∧w.cell? ⟨b,1,none⟩=some v1∧w.cell? ⟨b,2,none⟩=some v2∧w.cell? ⟨b,3,none⟩=some v3∧w.cell? ⟨b,4,none⟩=some v4∧w.cell? ⟨b,5,none⟩=some v5∧w.cell? ⟨b,6,none⟩=some v6∧b < w.heap.size:=by
 refine ⟨?_,?_,?_,?_,?_,?_,?_,heap_lt h⟩ <;> rw [cell_of_heap h] <;> rfl
theorem slRight_any (s:Sl) (hs:SlOK s) (w:World):Calls Tryz.prog 110 #[slV s] w fun e w'=>e=.returned (.bool true)∧Below w.heap.size w w':=by
 have hR:=qh fun W=>mkRight_any s.m hs.m W
 have hd:=hs.dp
 have hp:=hs.pl
 unfold mkV at hR
 unfold slV
 obtain ⟨⟨S,C⟩,r,v,d,⟨l1,l2⟩⟩:=s
 simp only at hd hp hR ⊢
 have hB:=qh ((Below.refl w.heap.size w).alloc (Nat.le_refl _) (.cells #[.int .u64 ((S:Nat):Int),.int .u8 ((C:Nat):Int),.string r,.string v,.bool d,.int .i64 l1,.int .u64 l2] 92))
 cases d with
 | true =>
  obtain ⟨rfl,rfl,rfl⟩:=hd rfl;clear hp hd
  go_enter Tryz.func110,Tryz.ntmps110
  go_wp2_with fail;refine (hR.out _).mono ?_;rintro e w1 ⟨rfl,hb⟩;obtain ⟨y0,y1,y2,y3,y4,y5,y6,yq⟩:=box7 (Below.heap' hb (heap_alloc_new w (.cells #[.int .u64 ((S:Nat):Int),.int .u8 ((9:Nat):Int),.string s0,.string s0,.bool true,.int .i64 l1,.int .u64 l2] 92)));have hfin:=qh (hB.out.trans (hb.mono (by simp)));clear hb;go_wp2_with fail;go_ret;exact ⟨by simp,hfin.out⟩
 | false =>
  obtain ⟨he,hc⟩:=hp rfl;injection he with e1 e2;subst e1 e2;clear hp hd;by_cases h9:C=9
  ·subst h9
   have hr:r≠s0:=hc.1 rfl;clear hc
   go_enter Tryz.func110,Tryz.ntmps110
   go_wp2_with fail;refine (hR.out _).mono ?_;rintro e w1 ⟨rfl,hb⟩;obtain ⟨y0,y1,y2,y3,y4,y5,y6,yq⟩:=box7 (Below.heap' hb (heap_alloc_new w (.cells #[.int .u64 ((S:Nat):Int),.int .u8 ((9:Nat):Int),.string r,.string v,.bool false,.int .i64 0,.int .u64 0] 92)));have hfin:=qh (hB.out.trans (hb.mono (by simp)));clear hb;go_wp2_with fail;go_ret;exact ⟨by simp;intro h;exact hr (bl_inj (by rw [ByteArray.toList_eq] at h;exact h)),hfin.out⟩
  ·have hr:r=s0:=Classical.byContradiction fun h=>h9 (hc.2 h)
   clear hc;subst hr;have hC:¬ (C:Int)=9:=by omega
   go_enter Tryz.func110,Tryz.ntmps110
   go_wp2_with fail;refine (hR.out _).mono ?_;rintro e w1 ⟨rfl,hb⟩;obtain ⟨y0,y1,y2,y3,y4,y5,y6,yq⟩:=box7 (Below.heap' hb (heap_alloc_new w (.cells #[.int .u64 ((S:Nat):Int),.int .u8 ((C:Nat):Int),.string s0,.string v,.bool false,.int .i64 0,.int .u64 0] 92)));have hfin:=qh (hB.out.trans (hb.mono (by simp)));clear hb;go_wp2_with fail;go_ret;exact ⟨by simpa using hC,hfin.out⟩
end Go.Proofs.YtbdealmkmpnpoaaGreat
namespace Go.Proofs.YtbdealmkmpnpoaaGreat.M
open Go.Lib
theorem lt_slt {a b:Mk} (ha:MkOK a) (hb:MkOK b):a.lt b=slt (mT a) (mT b):=by
 rw [mk_lt ha.b hb.b]
 unfold slt scmp
 show _=decide (compareBytes (bl (bs (mtx a))) (bl (bs (mtx b))) < 0)
 rw [bl_bs,bl_bs]
theorem row_rises {L:List Sl} (hm:∀ s,s∈L→MkOK s.m):(L.Pairwise fun a b=>a.m.lt b.m=true)↔Rises (L.map fun s=>mT s.m):=by
 unfold Rises
 rw [List.pairwise_map]
 exact ⟨fun h=>h.imp_of_mem fun ha hb hh=>by rw [← lt_slt (hm _ ha) (hm _ hb)];exact hh,fun h=>h.imp_of_mem fun ha hb hh=>by rw [lt_slt (hm _ ha) (hm _ hb)];exact hh⟩
section
variable {f:LF} {s:Sl} {m:Mk} {i r:Nat}
theorem LFOK.mok (h:LFOK f) (hs:s∈f.row):MkOK s.m:=(h.ok s hs).m
theorem LFOK.rises (h:LFOK f):Rises f.bn.keys:=(row_rises fun _ hs=>h.mok hs).1 h.rise
theorem LFOK.klen (h:LFOK f):f.bn.keys.length=f.n:=by
 show (f.row.map _).length=_
 rw [List.length_map,h.len]
theorem LFOK.kget (h:LFOK f) (hr:r < f.n):f.bn.keys[r]?=some (mT (f.slot r).m):=by
 show (f.row.map _)[r]?=_
 rw [List.getElem?_map,h.get hr]
 rfl
theorem LFOK.vget (h:LFOK f) (hr:r < f.n):f.bn.vals[r]?=some (f.slot r):=h.get hr
theorem LFOK.sok (h:LFOK f) (hr:r < f.n):SlOK (f.slot r):=h.ok _ (List.mem_of_getElem? (h.get hr))
theorem LFOK.has (h:LFOK f) (hm:MkOK m):hasK (mT m) f.bn.keys=true↔cut (mT m) f.bn.keys < f.n∧(f.slot (cut (mT m) f.bn.keys)).m=m:=by
 rw [hasK_iff]
 refine ⟨fun hh=>?_,fun hh=>?_⟩
 ·have hlt:=(List.getElem?_eq_some_iff.1 hh).1
  rw [h.klen] at hlt;rw [h.kget hlt] at hh;injection hh with hh;exact ⟨hlt,mT_inj (h.sok hlt).m.b hm.b hh⟩
 ·rw [h.kget hh.1,hh.2]
theorem LFOK.put_old (h:LFOK f) (hs:SlOK s) (hh:hasK (mT s.m) f.bn.keys=true):LFOK (f.set (cut (mT s.m) f.bn.keys) s)∧(f.set (cut (mT s.m) f.bn.keys) s).bn=f.bn.put (mT s.m) s:=by
 obtain ⟨h1,h2⟩:=(h.has hs.m).1 hh
 have h3:=h.set h1 hs h2.symm
 refine ⟨h3,?_⟩
 have hr:=h.row_set h1 s
 have hk:(f.set (cut (mT s.m) f.bn.keys) s).row.map (fun s=>mT s.m)=f.row.map fun s=>mT s.m:=by
  rw [hr];refine List.ext_getElem? fun j=>?_
  rw [List.getElem?_map,List.getElem?_map,List.getElem?_set];split
  ·rename_i hj
   subst hj;rw [if_pos (by rw [h.len];exact h1),h.get h1];simp [h2]
  ·rfl
 unfold BN.put
 rw [if_pos hh]
 show BN.mk true _ _ _ _ _ _=_
 rw [hk,hr]
 rfl
theorem LFOK.put_new (h:LFOK f) (hs:SlOK s) (hc:f.cov s.m=true) (hn:f.n < 14) (hh:hasK (mT s.m) f.bn.keys=false):LFOK (f.ins (cut (mT s.m) f.bn.keys) s)∧(f.ins (cut (mT s.m) f.bn.keys) s).bn=f.bn.put (mT s.m) s:=by
 obtain ⟨i,hi⟩:∃ i,i=cut (mT s.m) f.bn.keys:=⟨_,rfl⟩
 have hle:=cut_le (mT s.m) f.bn.keys
 rw [h.klen,← hi] at hle
 have hr:=h.row_ins hle hn s
 have hmem:∀ x,x∈(f.ins i s).row→x=s∨x∈f.row:=fun x hx=>by
  rw [hr] at hx;exact mem_insert hx
 have hkeys:(f.ins i s).row.map (fun s=>mT s.m)=f.bn.keys.insertIdx i (mT s.m):=by
  rw [hr];refine List.ext_getElem? fun j=>?_
  rw [List.getElem?_map,List.getElem?_insertIdx,List.getElem?_insertIdx,h.len,h.klen];split
  ·show _=(f.row.map _)[j]?
   rw [List.getElem?_map]
  ·split
   ·split <;> rfl
   ·show _=(f.row.map _)[j - 1]?
    rw [List.getElem?_map]
 have hris:Rises ((f.ins i s).row.map fun s=>mT s.m):=by
  rw [hkeys,hi];exact rises_insert h.rises hh
 rw [← hi]
 refine ⟨⟨by show f.n+1≤14;omega,h.o.move (by have:=h.n;omega) (by omega),by show (f.S.set _ _).length=15;rw [List.length_set];exact h.S,fun q h1 h2=>?_,fun x hx=>?_,(row_rises fun x hx=>?_).2 hris,fun x hx=>?_,h.hi⟩,?_⟩
 ·have h1':f.n+1≤q:=h1
  rw [h.slot_ins hle h2,if_neg (by omega),if_neg (by omega),if_neg (by omega)];exact h.free q (by omega) h2
 ·rcases hmem x hx with rfl | hx
  ·exact hs
  ·exact h.ok x hx
 ·rcases hmem x hx with rfl | hx
  ·exact hs.m
  ·exact h.mok hx
 ·rcases hmem x hx with rfl | hx
  ·exact hc
  ·exact h.cov x hx
 ·unfold BN.put
  rw [if_neg (by rw [hh];simp),← hi]
  show BN.mk true _ _ _ _ _ _=_
  rw [hkeys,hr];rfl
theorem LFOK.del (h:LFOK f) (hm:MkOK m) (hh:hasK (mT m) f.bn.keys=true):LFOK (f.del (cut (mT m) f.bn.keys))∧(f.del (cut (mT m) f.bn.keys)).bn=f.bn.del (mT m):=by
 obtain ⟨h1,h2⟩:=(h.has hm).1 hh
 obtain ⟨i,hi⟩:∃ i,i=cut (mT m) f.bn.keys:=⟨_,rfl⟩
 rw [← hi] at h1
 have hn:=h.n
 have hr:=h.row_del h1
 have hmem:∀ x,x∈(f.del i).row→x∈f.row:=fun x hx=>by
  rw [hr] at hx;exact List.mem_of_mem_eraseIdx hx
 have hkeys:(f.del i).row.map (fun s=>mT s.m)=f.bn.keys.eraseIdx i:=by
  rw [hr];refine List.ext_getElem? fun j=>?_
  rw [List.getElem?_map,List.getElem?_eraseIdx,List.getElem?_eraseIdx]
  show _=if j < i then (f.row.map _)[j]? else (f.row.map _)[j+1]?
  split <;> rw [List.getElem?_map]
 rw [← hi]
 refine ⟨⟨by show f.n - 1≤14;omega,h.o.move (by omega) (by omega),by show (f.S.set _ _).length=15;rw [List.length_set];exact h.S,fun q h3 h4=>?_,fun x hx=>h.ok x (hmem x hx),?_,fun x hx=>h.cov x (hmem x hx),h.hi⟩,?_⟩
 ·have h3':f.n - 1≤q:=h3
  rw [h.slot_del h1 h4,if_neg (by omega),if_neg (by omega)];split
  ·rfl
  ·exact h.free q (by omega) h4
 ·rw [hr]
  exact h.rise.sublist (List.eraseIdx_sublist _ _)
 ·unfold BN.del
  rw [if_pos hh,← hi]
  show BN.mk true _ _ _ _ _ _=_
  rw [hkeys,hr];rfl
end
end Go.Proofs.YtbdealmkmpnpoaaGreat.M
namespace Go.Proofs.YtbdealmkmpnpoaaGreat
open Go.RowKit M
namespace M
def lfc (f:LF):List Value:=.int .u64 ((pw f.n f.o:Nat):Int)::(f.S.flatMap slc++[.int .u64 ((f.hi.s:Nat):Int),.int .u8 ((f.hi.c:Nat):Int),.bool f.bnd,.int .i64 f.nx.1,.int .u64 f.nx.2])
abbrev lfV (f:LF):Value:=.agg (lfc f).toArray
theorem slc_len (s:Sl):(slc s).length=7:=rfl
theorem slcs_len (l:List Sl):(l.flatMap slc).length=7*l.length:=by
 induction l with
 | nil=>rfl
 | cons a l ih=>rw [List.flatMap_cons,List.length_append,ih,slc_len,List.length_cons];omega
theorem lfc_len {f:LF} (h:f.S.length=15):(lfc f).length=111:=by
 unfold lfc
 rw [List.length_cons,List.length_append,slcs_len,h]
 rfl
end M
theorem wpList_load_midg {P : Program} {ops : Array Oper} {rest : List Oper} {op : Oper} {a : Act} {w : World} {Q : Exit → Act → World → Prop} (hw : Region.wanted op (yielded ops a.tmps) = true) (ty : TypeId) (x : Operand) (ho : op.op = .load ty x)
    (b o:Nat) (hx:a.eval x=.pointer (some ⟨b,o,none⟩)) (cs:List Value) (d:TypeDesc) (hc:w.rangeAt b o cs)
    (hu:P.underlying ty=some d) (hd:d.isRow=true) (hi:(P.info? ty).map (·.size)=some cs.length)
    (h:wpList P ops Q rest (a.put op.dst (.agg cs.toArray)) w):wpList P ops Q (op::rest) a w :=
 wpList_step fun _ hK=>by rw [if_pos hw];exact wp_load_mid ty x ho b o hx cs d hc hu hd hi (hK _ _ h)
theorem range_of_heap {w:World} {b:Nat} {cs:List Value} {t:TypeId} (h:w.heap[b]?=some (.cells cs.toArray t)):w.rangeAt b 0 cs:=fun j v hv=>by
 rw [Nat.zero_add,cell_of_heap h]
 simpa using hv
theorem lf_heap {w : World} {b : Nat} {f : LF} (h : w.heap[b]? = some (.cells (lfc f).toArray 95)) (hS : f.S.length = 15) :
    w.cell? ⟨b,0,none⟩=some (.int .u64 ((pw f.n f.o:Nat):Int))∧w.cell? ⟨b,106,none⟩=some (.int .u64 ((f.hi.s:Nat):Int))∧w.cell? ⟨b,107,none⟩=some (.int .u8 ((f.hi.c:Nat):Int))∧w.cell? ⟨b,108,none⟩=some (.bool f.bnd)∧w.cell? ⟨b,109,none⟩=some (.int .i64 f.nx.1)∧w.cell? ⟨b,110,none⟩=some (.int .u64 f.nx.2):=by
 have hl:(f.S.flatMap slc).length=105:=by rw [slcs_len,hS]
 have key:∀ j v,[Value.int .u64 ((f.hi.s:Nat):Int),.int .u8 ((f.hi.c:Nat):Int),.bool f.bnd,.int .i64 f.nx.1,.int .u64 f.nx.2][j]?=some v→w.cell? ⟨b,106+j,none⟩=some v:=by
  intro j v hv;rw [cell_of_heap h];unfold lfc;rw [zg1,show 106+j=(105+j)+1 by omega,zg3,List.getElem?_append_right (by omega),hl];rw [show 105+j - 105=j by omega];exact hv
 refine ⟨?_,key 0 _ rfl,key 1 _ rfl,key 2 _ rfl,key 3 _ rfl,key 4 _ rfl⟩
 rw [cell_of_heap h]
 rfl
theorem M.LFOK.pw {f:LF} (h:LFOK f):PW f.n f.o:=⟨by have:=h.n;omega,h.o⟩
theorem lfLen_any (f:LF) (h:LFOK f) (w:World):Calls Tryz.prog 101 #[lfV f] w fun e w'=>e=.returned (.int .i64 f.n)∧Below w.heap.size w w':=by
 have hn:=h.n
 obtain ⟨c0,-⟩:=lf_heap (heap_alloc_new w (.cells (lfc f).toArray 95)) h.S
 obtain ⟨p1,p2,p3⟩:=h.pw.nib
 have hL:=qh fun W=>pmLen_any f.n f.o (by omega) p2 (by omega) W
 have hB:=qh ((Below.refl w.heap.size w).alloc (Nat.le_refl _) (.cells (lfc f).toArray 95))
 unfold lfV
 obtain ⟨cs,hcs⟩:∃ cs,cs=(lfc f).toArray:=⟨_,rfl⟩
 rw [← hcs] at c0 hB ⊢
 replace hcs:=qh hcs
 go_enter Tryz.func101,Tryz.ntmps101
 go_wp2_with fail
 refine (hL.out _).mono ?_
 rintro e w1 ⟨rfl,rfl⟩
 go_wp2_with fail
 go_ret
 exact ⟨rfl,hB.out⟩
theorem lfFull_any (f:LF) (h:LFOK f) (w:World):Calls Tryz.prog 143 #[lfV f] w fun e w'=>e=.returned (.bool (decide (6 < f.n)))∧Below w.heap.size w w':=by
 have hL:=qh fun W=>lfLen_any f h W
 have hB:=qh ((Below.refl w.heap.size w).alloc (Nat.le_refl _) (.cells (lfc f).toArray 95))
 have hr:=range_of_heap (heap_alloc_new w (.cells (lfc f).toArray 95))
 have hl:=lfc_len h.S
 unfold lfV at hL ⊢
 obtain ⟨cs,hcs⟩:∃ cs,cs=lfc f:=⟨_,rfl⟩
 rw [← hcs] at hr hB hL hl ⊢
 replace hcs:=qh hcs
 replace hr:=qh hr
 replace hl:=qh hl
 go_enter Tryz.func143,Tryz.ntmps143
 go_wp2_with (refine wpList_load_mid rfl 95 (.tmp 1) rfl w.heap.size 0 (by rfl) cs _ hr.out Tryz.underlying95 rfl (by rw [hl.out];kernel_rfl) ?_)
 refine (hL.out _).mono ?_
 rintro e w1 ⟨rfl,hb⟩
 have hfin:=qh (hB.out.trans (hb.mono (by simp)))
 clear hb
 go_wp2_with fail
 go_ret
 exact ⟨by simp;omega,hfin.out⟩
theorem lfCovers_any (f:LF) (h:LFOK f) (m:Mk) (w:World):Calls Tryz.prog 111 #[lfV f,mkV m] w fun e w'=>e=.returned (.bool (f.cov m))∧Below w.heap.size w w':=by
 have hL:=qh fun W=>mkLess_any m f.hi W
 have hB:=qh (((Below.refl w.heap.size w).alloc (Nat.le_refl _) (.cells (lfc f).toArray 95)).alloc (by simp) (.cells #[.int .u64 ((m.s:Nat):Int),.int .u8 ((m.c:Nat):Int)] 90))
 obtain ⟨-,c1,c2,c3,-⟩:=lf_heap (heap_alloc_old (.cells #[.int .u64 ((m.s:Nat):Int),.int .u8 ((m.c:Nat):Int)] 90) (heap_alloc_new w (.cells (lfc f).toArray 95))) h.S
 unfold lfV
 unfold mkV at hL ⊢
 have hv:f.cov m=(!f.bnd || m.lt f.hi):=rfl
 rw [hv]
 clear hv
 obtain ⟨cs,hcs⟩:∃ cs,cs=(lfc f).toArray:=⟨_,rfl⟩
 rw [← hcs] at hB c1 c2 c3 ⊢
 replace hcs:=qh hcs
 obtain ⟨bd,hbd⟩:∃ bd,bd=f.bnd:=⟨_,rfl⟩
 rw [← hbd] at c3 ⊢
 obtain ⟨hi,hhi⟩:∃ hi,hi=f.hi:=⟨_,rfl⟩
 rw [← hhi] at c1 c2 hL ⊢
 replace hbd:=qh hbd
 replace hhi:=qh hhi
 obtain ⟨b,hb⟩:∃ b,b=m.lt hi:=⟨_,rfl⟩
 rw [← hb] at hL ⊢
 replace hb:=qh hb
 cases bd with
 | false =>
  go_enter Tryz.func111,Tryz.ntmps111
  go_wp2_with fail;go_ret;exact ⟨by simp,hB.out⟩
 | true =>
  go_enter Tryz.func111,Tryz.ntmps111
  go_wp2_with fail;refine (hL.out _).mono ?_;rintro e w1 ⟨rfl,hb1⟩;have hfin:=qh (hB.out.trans (hb1.mono (by simp;omega)));clear hb1;go_wp2_with fail;go_ret;exact ⟨by simp,hfin.out⟩
open Go.RowKit M
theorem slc_slot {f:LF} (h:LFOK f) {i:Nat} (hi:i < 15):∀ j,j < 7→(lfc f)[1+f.o.getD i 0*7+j]?=(slc (f.slot i))[j]?:=by
 intro j hj
 have hk:=(h.ord hi).2
 have hm:=h.mem hi
 obtain ⟨k,hke⟩:∃ k,k=f.o.getD i 0:=⟨_,rfl⟩
 obtain ⟨s,hse⟩:∃ s,s=f.slot i:=⟨_,rfl⟩
 rw [← hke] at hk hm ⊢
 rw [← hse] at hm ⊢
 have gen:∀ (l:List Sl) (k:Nat),l[k]?=some s→(l.flatMap slc)[k*7+j]?=(slc s)[j]?:=by
  intro l
  induction l with
  | nil=>intro k hk;simp at hk
  | cons a l ih =>
   intro k hk;rw [List.flatMap_cons]
   cases k with
   | zero =>
    rw [List.getElem?_append_left (by rw [slc_len];omega)];simp at hk;rw [hk,Nat.zero_mul,Nat.zero_add]
   | succ k =>
    rw [List.getElem?_append_right (by rw [slc_len];omega),slc_len,show (k+1)*7+j - 7=k*7+j by omega];exact ih k (by simpa using hk)
 unfold lfc
 rw [show 1+k*7+j=(k*7+j)+1 by omega,zg3,List.getElem?_append_left (by rw [slcs_len,h.S];omega)]
 exact gen _ _ hm
theorem lf_slot {w:World} {b:Nat} {f:LF} (hb:w.heap[b]?=some (.cells (lfc f).toArray 95)) (h:LFOK f) {i:Nat} (hi:i < 15):w.rangeAt b (1+f.o.getD i 0*7) (slc (f.slot i)):=by
 intro j v hv
 have hj:j < 7:=by
  have:=(List.getElem?_eq_some_iff.1 hv).1
  rwa [slc_len] at this
 rw [cell_of_heap hb,zg1,slc_slot h hi j hj,hv]
set_option maxHeartbeats 4000000 in
theorem lfRight_any (f:LF) (h:LFOK f) (w:World):Calls Tryz.prog 98 #[lfV f] w fun e w'=>e=.returned (.bool true)∧Below w.heap.size w w':=by
 have hn:=h.n
 have hrange:=range_of_heap (heap_alloc_new w (.cells (lfc f).toArray 95))
 have hheap:=heap_alloc_new w (.cells (lfc f).toArray 95)
 obtain ⟨c0,c1,c2,c3,-,-⟩:=lf_heap hheap h.S
 obtain ⟨p1,p2,p3⟩:=h.pw.nib
 have hLn:=qh fun W=>pmLen_any f.n f.o (by omega) p2 (by omega) W
 have hRt:=qh fun W=>pmRight_any f.n f.o h.pw W
 have hAt:=qh fun i (hi:i < 15) W=>pmAt_any f.n f.o i p1 p2 p3 hi W
 have hord:=qh fun i (hi:i < 15)=>(h.ord hi).2
 have hCv:=qh fun m W=>lfCovers_any f h m W
 have hMR:=qh fun hm W=>mkRight_any f.hi hm W
 have hhi:=h.hi
 have hsl:=qh fun (W:World) (b:Nat) (hb:W.heap[b]?=some (.cells (lfc f).toArray 95)) (i:Nat) (hi:i < 15)=>lf_slot hb h hi
 have hB:=qh ((Below.refl w.heap.size w).alloc (Nat.le_refl _) (.cells (lfc f).toArray 95))
 have hl:=lfc_len h.S
 unfold lfV at hCv ⊢
 unfold mkV at hMR
 obtain ⟨cs,hcs⟩:∃ cs,cs=lfc f:=⟨_,rfl⟩
 rw [← hcs] at hrange hheap hB c0 c1 c2 c3 hCv hsl hl ⊢
 replace hcs:=qh hcs
 obtain ⟨p,hp⟩:∃ p,p=pw f.n f.o:=⟨_,rfl⟩
 rw [← hp] at c0 hLn hRt hAt
 replace hp:=qh hp
 replace hheap:=qh hheap
 replace hrange:=qh hrange
 replace hl:=qh hl
 clear p1 p2 p3
 obtain ⟨bd,hbd⟩:∃ bd,bd=f.bnd:=⟨_,rfl⟩
 rw [← hbd] at c3 hhi
 obtain ⟨⟨hs,hc⟩,hhe⟩:∃ hi,hi=f.hi:=⟨_,rfl⟩
 rw [← hhe] at c1 c2 hMR hhi
 simp only at c1 c2 hMR
 replace hbd:=qh hbd
 replace hhe:=qh hhe
 have hRow:=qh h.ok
 have hRise:=qh h.rise
 have hCov:=qh h.cov
 have hS5:=qh h.S
 have hGet:=qh fun r (hr:r < f.n)=>h.get hr
 have hFree:=qh h.free
 clear h
 go_enter Tryz.func98,Tryz.ntmps98
 go_upto_region 1 with fail
 go_cut [30] from 6 to 30 (fun v30 wz=>v30=.bool false∧Below w.heap.size w wz∧wz.heap[w.heap.size]?=some (.cells cs.toArray 95))
 case first =>
  cases bd with
  | false =>
   simp only [Bool.false_eq_true,if_false] at hhi;injection hhi with e1 e2;subst e1 e2;clear hMR;go_wp2_with fail;refine (hRt.out _).mono ?_;rintro e w1 ⟨rfl,hb1⟩;have d1:=keep hb1 c1;have d2:=keep hb1 c2;have d3:=keep hb1 c3;have hx1:=qh (Below.heap' hb1 hheap.out);have hB1:=qh (hB.out.trans (hb1.mono (by simp)));clear hb1 c0 c1 c2 c3;go_wp2_with fail;go_meet;exact ⟨rfl,hB1.out,hx1.out⟩
  | true =>
   simp only [if_true] at hhi;have hMR2:=qh (hMR.out hhi);clear hMR hhi;go_wp2_with fail;refine (hRt.out _).mono ?_;rintro e w1 ⟨rfl,hb1⟩;have d1:=keep hb1 c1;have d2:=keep hb1 c2;have d3:=keep hb1 c3;have hx1:=qh (Below.heap' hb1 hheap.out);have hB1:=qh (hB.out.trans (hb1.mono (by simp)));clear hb1 c0 c1 c2 c3;go_wp2_with fail;refine (hMR2.out _).mono ?_;rintro e w2 ⟨rfl,hb2⟩;have f1:=keep hb2 d1;have f2:=keep hb2 d2;have f3:=keep hb2 d3;have hx2:=qh (Below.heap' hb2 hx1.out);have hB2:=qh (hB1.out.trans (hb2.mono hB1.out.size));clear hb2 d1 d2 d3;go_wp2_with fail;go_meet;exact ⟨rfl,hB2.out,hx2.out⟩
 case rest =>
  obtain ⟨rfl,hB1,hx1⟩:=hcut;obtain ⟨w1,hw1⟩:∃ w1,w1=wc:=⟨_,rfl⟩;rw [← hw1] at hB1 hx1 ⊢;clear hw1 c0 c1 c2 c3 hMR hhi hRt hrange hheap;have hBn:=hB1.size;have hq:=heap_lt hx1;have hx2:=qh (heap_alloc_old (.cells #[.int .u64 0,.int .u8 0] 90) hx1);have hm2:=qh (heap_alloc_new w1 (.cells #[.int .u64 0,.int .u8 0] 90));have hB2:=qh (hB1.alloc hBn (.cells #[.int .u64 0,.int .u8 0] 90));replace hB1:=qh hB1;replace hx1:=qh hx1;obtain ⟨LB,hLB⟩:∃ LB,LB=w.heap.size:=⟨_,rfl⟩;rw [← hLB] at hx2 hx1 hBn hq ⊢;go_wp2_with fail;obtain ⟨MB,hMB⟩:∃ MB,MB=w1.heap.size:=⟨_,rfl⟩;rw [← hMB] at hm2 hBn hq ⊢;have hwM:Hid (w.heap.size≤MB):=qh (by rw [← hLB];exact hBn);replace hMB:=qh hMB;replace hLB:=qh hLB
  go_loopg [31] 15 (fun gk v31 wr=>∃ (k:Nat) (mk:Mk),gk=15 - k∧k≤15∧v31=.int .i64 k∧wr.heap[LB]?=some (.cells cs.toArray 95)∧wr.heap[MB]?=some (.cells #[.int .u64 ((mk.s:Nat):Int),.int .u8 ((mk.c:Nat):Int)] 90)∧(0 < k→k < f.n→mk=(f.slot (k - 1)).m)∧Below w.heap.size w wr)
  case atStart=>exact ⟨0,⟨0,0⟩,rfl,Nat.zero_le _,rfl,hx2.out,hm2.out,fun h=>by omega,hB2.out⟩
  case round =>
   obtain ⟨k,mk,rfl,hk,rfl,hx,hm,hmk,hb⟩:=hrel;clear hx1 hx2 hm2 hB1 hB2 hBn hB;by_cases hlt:k < 15
   ·have hk2:(k:Int) < 15:=by omega
    have hw1:IntKind.i64.wrap ((k:Int)+1)=(k:Int)+1:=IntWalk.i64_in _ (by omega);have hA:=qh (hAt.out k hlt wr);have hrg:=hsl.out wr LB hx k hlt;have hj:=hord.out k hlt;obtain ⟨j,hje⟩:∃ j,j=f.o.getD k 0:=⟨_,rfl⟩;rw [← hje] at hrg hA hj;replace hje:=qh hje;have hqL:=heap_lt hx;have hqM:=heap_lt hm;by_cases hkn:k < f.n
    ·have hs:=hRow.out _ (List.mem_of_getElem? (hGet.out k hkn))
     have hcv:=hCov.out _ (List.mem_of_getElem? (hGet.out k hkn))
     have hlm:0 < k→mk.lt (f.slot k).m=true:=fun h0=>by
      rw [hmk h0 hkn]
      exact List.pairwise_iff_getElem.1 hRise.out (k - 1) k (List.getElem?_eq_some_iff.1 (hGet.out (k - 1) (by omega))).1 (List.getElem?_eq_some_iff.1 (hGet.out k hkn)).1 (by omega) |> fun h=>by
       rw [(List.getElem?_eq_some_iff.1 (hGet.out (k - 1) (by omega))).2,(List.getElem?_eq_some_iff.1 (hGet.out k hkn)).2] at h;exact h
     have hSR:=qh fun W=>slRight_any _ hs W
     have hCm:=qh fun W=>hCv.out (f.slot k).m W
     have hLs:=qh fun W=>mkLess_any mk (f.slot k).m W
     rw [hcv] at hCm;have hmk2:Hid (0 < k+1→k+1 < f.n→(f.slot k).m=(f.slot (k+1 - 1)).m):=qh fun _ _=>rfl
     unfold mkV at hCm hLs;unfold slV at hSR;obtain ⟨⟨⟨S,C⟩,r,v,d,⟨l1,l2⟩⟩,hse⟩:∃ s,s=f.slot k:=⟨_,rfl⟩;rw [← hse] at hrg hSR hCm hLs hmk2 hlm;simp only at hSR hCm hLs hmk2 hlm;replace hse:=qh hse;have hrz:Hid (wr.rangeAt LB (1+j*7) [.int .u64 ((S:Nat):Int),.int .u8 ((C:Nat):Int),.string r,.string v,.bool d,.int .i64 l1,.int .u64 l2]):=qh hrg;clear hrg hs hcv hmk;have hkn2:¬ (f.n:Int)≤(k:Int):=by omega
     have hj0:(0:Int)≤(j:Int):=by omega
     have hj15:(j:Int) < 15:=by omega
     have d0:=(lf_heap (hcs.out ▸ hx) (by first | exact hS5.out)).1;rw [← hp.out] at d0;obtain ⟨m0,m1,-,-,-⟩:=box2 hm;obtain ⟨ls,hlse⟩:∃ b,b=mk.lt ⟨S,C⟩:=⟨_,rfl⟩;rw [← hlse] at hLs hlm;replace hlse:=qh hlse;have hAl:=qh (hb.alloc hb.size (.cells #[.int .u64 ((S:Nat):Int),.int .u8 ((C:Nat):Int),.string r,.string v,.bool d,.int .i64 l1,.int .u64 l2] 92));have hxA:=qh (heap_alloc_old (.cells #[.int .u64 ((S:Nat):Int),.int .u8 ((C:Nat):Int),.string r,.string v,.bool d,.int .i64 l1,.int .u64 l2] 92) hx);have hmA:=qh (heap_alloc_old (.cells #[.int .u64 ((S:Nat):Int),.int .u8 ((C:Nat):Int),.string r,.string v,.bool d,.int .i64 l1,.int .u64 l2] 92) hm);have hsA:=qh (heap_alloc_new wr (.cells #[.int .u64 ((S:Nat):Int),.int .u8 ((C:Nat):Int),.string r,.string v,.bool d,.int .i64 l1,.int .u64 l2] 92));have hbS:=hb.size;replace hx:=qh hx;replace hm:=qh hm;replace hb:=qh hb;go_wp2_with fail;refine hA.out.mono ?_;rintro e w3 ⟨rfl,rfl⟩
     go_wp2_with (refine wpList_load_mid rfl 92 (.tmp 39) rfl LB (1+j*7) (by rfl) _ _ hrz.out Tryz.underlying92 rfl (by kernel_rfl) ?_)
     refine (hLn.out _).mono ?_;rintro e w4 ⟨rfl,rfl⟩;obtain ⟨SB,hSB⟩:∃ SB,SB=wr.heap.size:=⟨_,rfl⟩;rw [← hSB] at hsA hqL hqM ⊢;obtain ⟨w4,hw4⟩:∃ x,x=wr.alloc (.cells #[.int .u64 ((S:Nat):Int),.int .u8 ((C:Nat):Int),.string r,.string v,.bool d,.int .i64 l1,.int .u64 l2] 92):=⟨_,rfl⟩;rw [← hw4] at hsA hmA hxA hAl ⊢;have hbw:=qh (show wr.heap.size < w4.heap.size by rw [hw4];simp);replace hSB:=qh hSB;replace hw4:=qh hw4;clear hrz d0 m0 m1;go_upto_region 11 with fail;go_cut [69] from 45 to 69 (fun v69 wz=>v69=.bool false∧Below w4.heap.size w4 wz)
     case first =>
      obtain ⟨s0',s1,s2,s3,s4,s5,s6,sq⟩:=box7 hsA.out;obtain ⟨m0,m1,mq,-,-⟩:=box2 hmA.out;have hrL:=range_of_heap hxA.out;replace hrL:=qh hrL;have hrg1:Hid (w4.heap[LB]?=some (.cells cs.toArray 95)):=hxA;by_cases h0:k=0
      ·have h00:¬ (0:Int) < (k:Int):=by omega
       clear hlm hmk2 hkn2 hkn hk2 hlt hw1 hk;replace h0:=qh h0;go_wp2_with fail;refine (hSR.out _).mono ?_;rintro e w5 ⟨rfl,hb5⟩;have t0:=keep hb5 s0';have t1:=keep hb5 s1;have hr5:=qh (range_of_heap (Below.heap' hb5 hxA.out));replace hb5:=qh hb5;clear s0' s1 s2 s3 s4 s5 s6 m0 m1
       go_wp2_with (refine wpList_load_midg (by rfl) 95 (.tmp 1) rfl LB 0 (by rfl) cs _ hr5.out Tryz.underlying95 rfl (by rw [hl.out];kernel_rfl) ?_)
       refine (hCm.out _).mono ?_;rintro e w7 ⟨rfl,hb7⟩;go_wp2_with fail;go_meet;exact ⟨rfl,hb5.out.trans (hb7.mono hb5.out.size)⟩
      ·have h00:(0:Int) < (k:Int):=by omega
       have hlt1:=hlm (by omega);clear hlm hmk2 hkn2 hkn hk2 hlt hw1 hk;subst hlt1;replace h0:=qh h0;go_wp2_with fail;refine (hSR.out _).mono ?_;rintro e w5 ⟨rfl,hb5⟩;have t0:=keep hb5 s0';have t1:=keep hb5 s1;have q0:=keep hb5 m0;have q1:=keep hb5 m1;have hx5:=qh (Below.heap' hb5 hxA.out);replace hb5:=qh hb5;clear s0' s1 s2 s3 s4 s5 s6 m0 m1;go_wp2_with fail;refine (hLs.out _).mono ?_;rintro e w6 ⟨rfl,hb6⟩;have r0:=keep hb6 t0;have r1:=keep hb6 t1;have hr6:=qh (range_of_heap (Below.heap' hb6 hx5.out));have hb56:=qh (hb5.out.trans (hb6.mono hb5.out.size));clear hb6 t0 t1 q0 q1
       go_wp2_with (refine wpList_load_midg (by rfl) 95 (.tmp 1) rfl LB 0 (by rfl) cs _ hr6.out Tryz.underlying95 rfl (by rw [hl.out];kernel_rfl) ?_)
       refine (hCm.out _).mono ?_;rintro e w7 ⟨rfl,hb7⟩;go_wp2_with fail;go_meet;exact ⟨rfl,hb56.out.trans (hb7.mono hb56.out.size)⟩
     case rest =>
      obtain ⟨rfl,hb5⟩:=hcut;obtain ⟨w5,hw5⟩:∃ w5,w5=wc:=⟨_,rfl⟩;rw [← hw5] at hb5 ⊢;clear hw5;have hs5:=Below.heap' hb5 hsA.out;have hm5:=Below.heap' hb5 hmA.out;obtain ⟨s0',s1,-⟩:=box7 hs5;obtain ⟨m0,m1,mq,g0,g1⟩:=box2 hm5;have hx5:=Below.heap' hb5 hxA.out
      have hne:LB≠MB:=fun e=>by
       rw [e] at hx5;rw [hx5] at hm5;injection hm5 with e1;injection e1 with e2;have h1:=congrArg Array.size e2;have h2:=hl.out;simp at h1;omega
      have hm6:=qh (show ((w5.setCell ⟨MB,0,none⟩ (.int .u64 ((S:Nat):Int))).setCell ⟨MB,1,none⟩ (.int .u8 ((C:Nat):Int))).heap[MB]?=some (.cells #[.int .u64 ((S:Nat):Int),.int .u8 ((C:Nat):Int)] 90) by rw [heap_set_same (heap_set_same hm5 0 _) 1 _];rfl);have hx6:=qh (show ((w5.setCell ⟨MB,0,none⟩ (.int .u64 ((S:Nat):Int))).setCell ⟨MB,1,none⟩ (.int .u8 ((C:Nat):Int))).heap[LB]?=some (.cells cs.toArray 95) by rw [heap_set_other _ _ (by exact hne),heap_set_other _ _ (by exact hne)];exact hx5);have hb6:=qh (show Below w.heap.size w ((w5.setCell ⟨MB,0,none⟩ (.int .u64 ((S:Nat):Int))).setCell ⟨MB,1,none⟩ (.int .u8 ((C:Nat):Int))) from (hAl.out.trans (hb5.mono hAl.out.size)).trans ((((Upd.refl [MB] w5).setCell (p:=⟨MB,0,none⟩) (by simp) _).setCell (p:=⟨MB,1,none⟩) (by simp) _).below (hAl.out.trans (hb5.mono hAl.out.size)).size (by simpa using hwM.out)));replace hb5:=qh hb5;replace hs5:=qh hs5;replace hm5:=qh hm5;replace hx5:=qh hx5;clear hlm hkn2 hkn;go_wp2_with fail;go_roundg (15 - (k+1))
      case rel =>
       exact ⟨k+1,⟨S,C⟩,rfl,by omega,by go_num,hx6.out,hm6.out,fun a b=>hmk2.out a b,hb6.out⟩
      case measure=>omega
    ·have hz:=hFree.out k (by omega) hlt
     rw [hz] at hrg;clear hmk;have hrz:Hid (wr.rangeAt LB (1+j*7) [.int .u64 0,.int .u8 0,.string s0,.string s0,.bool false,.int .i64 0,.int .u64 0]):=qh hrg;clear hrg hz;have hkn2:(f.n:Int)≤(k:Int):=by omega
     have hj0:(0:Int)≤(j:Int):=by omega
     have hj15:(j:Int) < 15:=by omega
     have d0:=(lf_heap (hcs.out ▸ hx) (by first | exact hS5.out)).1;rw [← hp.out] at d0;have hLn2:=hLn;replace hx:=qh hx;replace hm:=qh hm;replace hb:=qh hb;go_wp2_with fail;refine hA.out.mono ?_;rintro e w3 ⟨rfl,rfl⟩
     go_wp2_with (refine wpList_load_mid rfl 92 (.tmp 39) rfl LB (1+j*7) (by rfl) _ _ hrz.out Tryz.underlying92 rfl (by kernel_rfl) ?_)
     refine (hLn.out _).mono ?_;rintro e w4 ⟨rfl,rfl⟩;go_wp2_with fail;go_roundg (15 - (k+1))
     case rel =>
      exact ⟨k+1,mk,rfl,by omega,by go_num,heap_alloc_old _ hx.out,heap_alloc_old _ hm.out,fun _ h=>by omega,hb.out.alloc hb.out.size _⟩
     case measure=>omega
   ·obtain rfl:k=15:=by omega
    replace hb:=qh hb;clear hmk;go_wp2_with fail;go_ret;exact ⟨rfl,hb.out⟩
open Go.RowKit M
abbrev set7w (w:World) (b:Nat) (v0 v1 v2 v3 v4 v5 v6:Value):World:=((((((w.setCell ⟨b,0,none⟩ v0).setCell ⟨b,1,none⟩ v1).setCell ⟨b,2,none⟩ v2).setCell ⟨b,3,none⟩ v3).setCell ⟨b,4,none⟩ v4).setCell ⟨b,5,none⟩ v5).setCell ⟨b,6,none⟩ v6
theorem set7 {w : World} {b : Nat} {a0 a1 a2 a3 a4 a5 a6 : Value} {t : TypeId} (h : w.heap[b]? = some (.cells #[a0, a1, a2, a3, a4, a5, a6] t)) (v0 v1 v2 v3 v4 v5 v6 : Value) :
    (set7w w b v0 v1 v2 v3 v4 v5 v6).heap[b]?=some (.cells #[v0,v1,v2,v3,v4,v5,v6] t)∧Upd [b] w (set7w w b v0 v1 v2 v3 v4 v5 v6):=by
 refine ⟨?_,?_⟩
 ·rw [heap_set_same (heap_set_same (heap_set_same (heap_set_same (heap_set_same (heap_set_same (heap_set_same h 0 v0) 1 v1) 2 v2) 3 v3) 4 v4) 5 v5) 6 v6]
  rfl
 ·exact (((((((Upd.refl [b] w).setCell (p:=⟨b,0,none⟩) (by simp) v0).setCell (p:=⟨b,1,none⟩) (by simp) v1).setCell (p:=⟨b,2,none⟩) (by simp) v2).setCell (p:=⟨b,3,none⟩) (by simp) v3).setCell (p:=⟨b,4,none⟩) (by simp) v4).setCell (p:=⟨b,5,none⟩) (by simp) v5).setCell (p:=⟨b,6,none⟩) (by simp) v6
set_option maxHeartbeats 2000000 in
theorem lfAt_any (f:LF) (h:LFOK f) (i:Nat) (hi:i≤f.n) (w:World):Calls Tryz.prog 54 #[lfV f,.int .i64 i] w fun e w'=>e=.returned (.tuple #[slV (f.slot i),.bool (decide (i < f.n))])∧Below w.heap.size w w':=by
 have hn:=h.n
 have hx:=heap_alloc_old (.cells #[.int .u64 0,.int .u8 0,.string ⟨#[]⟩,.string ⟨#[]⟩,.bool false,.int .i64 0,.int .u64 0] 92) (heap_alloc_new w (.cells (lfc f).toArray 95))
 have hy:=heap_alloc_new (w.alloc (.cells (lfc f).toArray 95)) (.cells #[.int .u64 0,.int .u8 0,.string ⟨#[]⟩,.string ⟨#[]⟩,.bool false,.int .i64 0,.int .u64 0] 92)
 obtain ⟨p1,p2,p3⟩:=h.pw.nib
 have hLn:=qh fun W=>lfLen_any f h W
 have hRt:=qh fun W=>lfRight_any f h W
 have hAt:=qh fun W=>pmAt_any f.n f.o i p1 p2 p3 (by omega) W
 have hB:=qh (((Below.refl w.heap.size w).alloc (Nat.le_refl _) (.cells (lfc f).toArray 95)).alloc (by simp) (.cells #[.int .u64 0,.int .u8 0,.string ⟨#[]⟩,.string ⟨#[]⟩,.bool false,.int .i64 0,.int .u64 0] 92))
 have hl:=lfc_len h.S
 have hj:=(h.ord (show i < 15 by omega)).2
 have hsl:=qh fun (W:World) (b:Nat) (hb:W.heap[b]?=some (.cells (lfc f).toArray 95))=>(⟨lf_slot hb h (show i < 15 by omega),(lf_heap hb h.S).1⟩:_∧_)
 have hz:f.n≤i→f.slot i=zeroSl:=fun h1=>h.free i h1 (by omega)
 have hi0:¬ (i:Int) < 0:=by omega
 clear h p1 p2 p3
 unfold lfV at hLn hRt ⊢
 unfold slV
 obtain ⟨cs,hcs⟩:∃ cs,cs=lfc f:=⟨_,rfl⟩
 rw [← hcs] at hx hy hB hLn hRt hsl hl ⊢
 replace hcs:=qh hcs
 obtain ⟨p,hp⟩:∃ p,p=pw f.n f.o:=⟨_,rfl⟩
 rw [← hp] at hsl hAt
 replace hp:=qh hp
 obtain ⟨j,hje⟩:∃ j,j=f.o.getD i 0:=⟨_,rfl⟩
 rw [← hje] at hsl hAt hj
 replace hje:=qh hje
 have hrx:=qh (range_of_heap hx)
 replace hl:=qh hl
 obtain ⟨W0,hW0⟩:∃ W0,W0=(w.alloc (.cells cs.toArray 95)).alloc (.cells #[.int .u64 0,.int .u8 0,.string ⟨#[]⟩,.string ⟨#[]⟩,.bool false,.int .i64 0,.int .u64 0] 92):=⟨_,rfl⟩
 rw [← hW0] at hx hy hB hrx
 replace hx:=qh hx
 replace hy:=qh hy
 by_cases hin:i < f.n
 ·have hin2:¬ f.n≤i:=by omega
  rw [decide_eq_true hin];clear hz hin hi;obtain ⟨⟨⟨S,C⟩,r,v,d,⟨l1,l2⟩⟩,hse⟩:∃ s,s=f.slot i:=⟨_,rfl⟩;rw [← hse] at hsl ⊢;replace hse:=qh hse
  go_enter Tryz.func54,Tryz.ntmps54
  go_upto_region 1 with fail;rw [← hW0];replace hW0:=qh hW0
  go_wp2_with (refine wpList_load_midg (by rfl) 95 (.tmp 2) rfl w.heap.size 0 (by rfl) cs _ hrx.out Tryz.underlying95 rfl (by rw [hl.out];kernel_rfl) ?_)
  refine (hLn.out _).mono ?_;rintro e w1 ⟨rfl,hb1⟩;have hx1:=qh (Below.heap' hb1 hx.out);have hy1:=qh (Below.heap' hb1 hy.out);have hB1:=qh (hB.out.trans (hb1.mono hB.out.size));have hr1:=qh (range_of_heap hx1.out);clear hb1 hrx hx hy
  go_wp2_with (refine wpList_load_midg (by rfl) 95 (.tmp 2) rfl w.heap.size 0 (by rfl) cs _ hr1.out Tryz.underlying95 rfl (by rw [hl.out];kernel_rfl) ?_)
  refine (hRt.out _).mono ?_;rintro e w2 ⟨rfl,hb2⟩;have hx2:=qh (Below.heap' hb2 hx1.out);have hy2:=qh (Below.heap' hb2 hy1.out);have hB2:=qh (hB1.out.trans (hb2.mono hB1.out.size));clear hb2 hr1 hx1 hy1;obtain ⟨hs2,d0⟩:=hsl.out _ _ hx2.out;have hrz:Hid (w2.rangeAt w.heap.size (1+j*7) [.int .u64 ((S:Nat):Int),.int .u8 ((C:Nat):Int),.string r,.string v,.bool d,.int .i64 l1,.int .u64 l2]):=qh hs2;clear hs2;have hj0:(0:Int)≤(j:Int):=by omega
  have hj15:(j:Int) < 15:=by omega
  go_wp2_with fail;refine (hAt.out _).mono ?_;rintro e w3 ⟨rfl,rfl⟩;have hRB:(w.alloc (.cells cs.toArray 95)).heap.size=w.heap.size+1:=by simp
  rw [hRB] at hy2;clear hRB;obtain ⟨RB,hRBe⟩:∃ RB,RB=w.heap.size+1:=⟨_,rfl⟩;rw [← hRBe] at hy2 ⊢;obtain ⟨y0,y1,y2,y3,y4,y5,y6,yq⟩:=box7 hy2.out;have yf:=frozen_of_heap hy2.out;obtain ⟨hz1,hz2⟩:=set7 hy2.out (.int .u64 ((S:Nat):Int)) (.int .u8 ((C:Nat):Int)) (.string r) (.string v) (.bool d) (.int .i64 l1) (.int .u64 l2);obtain ⟨z0,z1,z2,z3,z4,z5,z6,-⟩:=box7 hz1;have hfin:=qh (hB2.out.trans (hz2.below hB2.out.size (by intro k hk;rw [List.mem_singleton.1 hk,hRBe];omega)));replace hRBe:=qh hRBe;clear hz1 hz2
  go_wp2_with (refine wpList_load_mid rfl 92 (.tmp 25) rfl w.heap.size (1+j*7) (by rfl) _ _ hrz.out Tryz.underlying92 rfl (by kernel_rfl) ?_)
  simp only [set7w] at z0 z1 z2 z3 z4 z5 z6;refine bodyPost_ret (v:=.tuple #[.agg #[.int .u64 ((S:Nat):Int),.int .u8 ((C:Nat):Int),.string r,.string v,.bool d,.int .i64 l1,.int .u64 l2],.bool true]) (by simp [results,Tryz.results54,go_sem,z0,z1,z2,z3,z4,z5,z6]) rfl ⟨rfl,hfin.out⟩
 ·have hin2:f.n≤i:=by omega
  rw [decide_eq_false hin,hz hin2];clear hz hsl hAt hi
  go_enter Tryz.func54,Tryz.ntmps54
  go_upto_region 1 with fail;rw [← hW0];replace hW0:=qh hW0
  go_wp2_with (refine wpList_load_midg (by rfl) 95 (.tmp 2) rfl w.heap.size 0 (by rfl) cs _ hrx.out Tryz.underlying95 rfl (by rw [hl.out];kernel_rfl) ?_)
  refine (hLn.out _).mono ?_;rintro e w1 ⟨rfl,hb1⟩;have hy1:=Below.heap' hb1 hy.out;have hB1:=qh (hB.out.trans (hb1.mono hB.out.size));clear hb1 hrx hx hy;have hRB:(w.alloc (.cells cs.toArray 95)).heap.size=w.heap.size+1:=by simp
  rw [hRB] at hy1;clear hRB;obtain ⟨RB,hRBe⟩:∃ RB,RB=w.heap.size+1:=⟨_,rfl⟩;rw [← hRBe] at hy1 ⊢;obtain ⟨y0,y1,y2,y3,y4,y5,y6,yq⟩:=box7 hy1;have yf:=frozen_of_heap hy1;obtain ⟨hz1,hz2⟩:=set7 hy1 (.int .u64 0) (.int .u8 0) (.string ⟨#[]⟩) (.string ⟨#[]⟩) (.bool false) (.int .i64 0) (.int .u64 0);obtain ⟨z0,z1,z2,z3,z4,z5,z6,-⟩:=box7 hz1;have hfin:=qh (hB1.out.trans (hz2.below hB1.out.size (by intro k hk;rw [List.mem_singleton.1 hk,hRBe];omega)));replace hRBe:=qh hRBe;clear hz1 hz2;go_wp2_with fail;simp only [set7w] at z0 z1 z2 z3 z4 z5 z6;refine bodyPost_ret (v:=.tuple #[.agg #[.int .u64 0,.int .u8 0,.string ⟨#[]⟩,.string ⟨#[]⟩,.bool false,.int .i64 0,.int .u64 0],.bool false]) (by simp [results,Tryz.results54,go_sem,z0,z1,z2,z3,z4,z5,z6]) rfl ⟨rfl,hfin.out⟩
open Go.RowKit Go.Shelf M
attribute [local go_sem] Oper.semAt_some
theorem pmAll_any (n:Nat) (o:List Nat) (w:World):Calls Tryz.prog 99 #[.int .u64 (pw n o)] w fun e w'=>e=.returned (.func (.func 137) #[] #[.pointer (some ⟨w.heap.size,0,none⟩)])∧w'=w.alloc (.cells #[.int .u64 (pw n o)] 69):=by
 obtain ⟨p,hp⟩:∃ p,p=pw n o:=⟨_,rfl⟩
 rw [← hp]
 replace hp:=qh hp
 go_enter Tryz.func99,Tryz.ntmps99
 go_wp2_with fail
 go_ret
 exact ⟨by simp,rfl⟩
def KpB (b:Nat) (W W':World):Prop:=W'.heap[b]?=W.heap[b]?
theorem KpB.trans {b:Nat} {W W' W'':World} (h:KpB b W W') (h':KpB b W' W''):KpB b W W'':=Eq.trans h' h
set_option maxHeartbeats 2000000 in
theorem pmAll1_in (n : Nat) (o : List Nat) (h : PW n o) (m : Nat) (hm1 : 1 ≤ m) (l : Nat) (J Jx : List Nat → World → Prop) {W : World} {b : Nat} (hb : W.heap[b]? = some (.cells #[.int .u64 (pw n o)] 69))
    (hJb:∀ p W W',J p W→Below W.heap.size W W'→J p W')
    (hY:∀ pre x W,J pre W→pre.length < n→x < n→YieldAt Fence.wide (m - 1) Tryz.prog l #[.int .i64 x,.int .i64 ((o.getD x 0:Nat):Int)] W fun e W' =>
     (e=.returned (.bool true)∧J (pre++[x]) W'∧KpB b W W')∨(e=.returned (.bool false)∧Jx (pre++[x]) W')) (h0:J [] W) :
    CallsIn Fence.wide m Tryz.prog 137 #[.func (.yield l) #[] #[],.pointer (some ⟨b,0,none⟩)] W fun e W'=>(∃ v,e=.returned v) ∧
     ((∃ ys,ys=List.range n∧J ys W')∨(∃ pre,pre <+: List.range n∧Jx pre W')):=by
 obtain ⟨h1,h2,h3⟩:=h.nib
 have hn:=h.n
 have hAt:=qh fun (i:Nat) (hi:i < 15) W=>pmAt_any n o i h1 h2 h3 hi W
 have hLn:=qh fun W=>pmLen_any n o h1 h2 (Nat.le_of_eq h3) W
 have hRt:=qh fun W=>pmRight_any n o h W
 clear h h1 h2 h3
 obtain ⟨p,hp⟩:∃ p,p=pw n o:=⟨_,rfl⟩
 rw [← hp] at hAt hLn hRt hb
 replace hp:=qh hp
 have c0:W.cell? ⟨b,0,none⟩=some (.int .u64 p):=by rw [cell_of_heap hb];rfl
 replace hJb:=qh hJb
 replace hY:=qh hY
 replace hb:=qh hb
 refine callsIn_of_wp Tryz.func137 rfl trivial ?_ rfl
 simp only [Tryz.ntmps137,List.size_toArray,List.length_cons,List.length_nil,Nat.reduceAdd,Nat.reduceSub,Array.replicate_succ,Array.replicate_zero,List.push_toArray,List.append_toArray,List.nil_append,List.cons_append]
 gi_wp2
 refine ⟨trivial,(callsIn_wide.2 (hRt.out W)).mono ?_⟩
 rintro e w1 ⟨rfl,hb1⟩
 have hJ1:=qh (hJb.out _ _ _ h0 hb1)
 have hB1:=qh (Below.heap' hb1 hb.out)
 have d0:w1.cell? ⟨b,0,none⟩=some (.int .u64 p):=by rw [cell_of_heap hB1.out];rfl
 clear hb1 c0 hb h0
 gi_wp2
 refine ⟨trivial,(callsIn_wide.2 (hLn.out w1)).mono ?_⟩
 rintro e w2 ⟨rfl,rfl⟩
 gi_wp2
 gi_loopw [9] (fun i wr=>∃ k:Nat,k≤n∧i=.int .i64 k∧J (List.range k) wr∧wr.heap[b]?=some (.cells #[.int .u64 p] 69))
  (fun i _=>n - (intOf i).toNat)
 case atStart=>exact ⟨0,Nat.zero_le _,rfl,hJ1.out,hB1.out⟩
 case round =>
  obtain ⟨k,hk,rfl,hJs,hKb⟩:=hrel;clear d0 hJ1 hB1;by_cases hlt:k < n
  ·have c0:wr.cell? ⟨b,0,none⟩=some (.int .u64 p):=by rw [cell_of_heap hKb];rfl
   have hA2:(k:Int) < (n:Int):=by omega
   have hA3:(0:Int)≤(k:Int):=by omega
   have hw1:IntKind.i64.wrap ((k:Int)+1)=(k:Int)+1:=IntWalk.i64_in _ (by omega);obtain ⟨fn,tmps,assign,body,hyy,hR⟩:=hY.out (List.range k) k wr hJs (by rw [List.length_range];exact hlt) hlt;have ht:List.range k++[k]=List.range (k+1):=List.range_succ.symm;rw [ht] at hR
   have hpre:Hid (List.range (k+1) <+: List.range n):=qh (by
    have:List.range n=List.range (k+1)++(List.range (n - (k+1))).map (k+1 + ·):=by rw [← List.range_add];congr 1;omega
    rw [this]
    exact List.prefix_append _ _)
   clear ht;replace hKb:=qh hKb;have hAk:=qh (hAt.out k (by omega) wr);obtain ⟨x,hx⟩:∃ x,x=o.getD k 0:=⟨_,rfl⟩;rw [← hx] at hAk hyy;replace hx:=qh hx
   gi_wp2
   refine ⟨trivial,(callsIn_wide.2 hAk.out).mono ?_⟩;rintro e w3 ⟨rfl,rfl⟩
   gi_wp2
   refine hR.mono ?_;rintro e W3 (⟨rfl,hJ3,hk3⟩ | ⟨rfl,hJx3⟩)
   ·gi_wp2
    go_roundw
    case rel=>exact ⟨k+1,by omega,by go_num,hJ3,by rw [hk3];exact hKb.out⟩
    case measure=>simp [intOf];omega
   ·gi_wp2
    refine bodyPost_ret (results_none rfl _ _ _) rfl ?_;exact ⟨⟨_,rfl⟩,.inr ⟨_,hpre.out,hJx3⟩⟩
  ·obtain rfl:k=n:=by omega
   gi_wp2
   go_end0;exact ⟨⟨_,rfl⟩,.inl ⟨_,rfl,hJs⟩⟩
theorem pmAll1_stops (n : Nat) (o : List Nat) (h : PW n o) (m : Nat) (hm1 : 1 ≤ m) {w : World} {b : Nat} (hb : w.heap[b]? = some (.cells #[.int .u64 (pw n o)] 69)) :
    SeqStopsK Fence.wide m Tryz.prog 137 #[.pointer (some ⟨b,0,none⟩)] (fun y:{ y:Nat // y < n }=>#[.int .i64 y.1,.int .i64 ((o.getD y.1 0:Nat):Int)]) (KpB b) (fun ys=>ys.map (·.1)=List.range n) (fun pre=>pre.map (·.1) <+: List.range n) n w:=fun l J Jx _ hW hab _ hY h0 =>
 (pmAll1_in n o h m hm1 l (fun pre W=>∃ p:List { y:Nat // y < n },p.map (·.1)=pre∧J p W) (fun pre W=>∃ p:List { y:Nat // y < n },p.map (·.1)=pre∧Jx p W) (Below.heap' hW hb) (fun p W W' hJ hbb=>by
  obtain ⟨q,e,hJ⟩:=hJ
  exact ⟨q,e,hab _ _ _ none hJ ⟨hbb.os,hbb.tape,hbb.output,hbb.size,fun k hk _=>hbb.block k hk⟩ (fun r e=>by cases e)⟩) (fun pre x W hJ hl hx=>by
  obtain ⟨p,rfl,hJ⟩:=hJ;obtain ⟨fn,tmps,assign,body,hyy,hR⟩:=hY p ⟨x,hx⟩ W hJ (by simpa using hl);refine ⟨fn,tmps,assign,body,hyy,hR.mono ?_⟩;rintro e W' (⟨a,b,c⟩ | ⟨a,b⟩)
  ·exact .inl ⟨a,⟨_,by simp,b⟩,c⟩
  ·exact .inr ⟨a,_,by simp,b⟩) ⟨[],rfl,h0⟩).mono fun e W' h=>by
  obtain ⟨hv,⟨ys,rfl,p,hp,hJ⟩ | ⟨pre,hpre,p,hp,hJ⟩⟩:=h
  ·exact ⟨hv,.inl ⟨p,hp,hJ⟩⟩
  ·exact ⟨hv,.inr ⟨p,by show p.map (·.1) <+: _;rw [hp];exact hpre,hJ⟩⟩
open Go
variable {F:Fence} {n:Nat} {P:Program} {ops:Array Oper} {Q:Exit→Act→World→Prop} {md:Region.Mode}
theorem wpAnyIn_inRound (l : Nat) (hro : F.round = none) (hd : ∀ (i : Nat) (o : Oper), ops[i]? = some o → ∀ c, o.op ≠ .defer c) :
    ∀ (fuel:Nat) (listed:Array Bool) (a:Act) (w:World),wpAnyIn F n P md ops Q fuel listed a w→wpAnyIn (F.inRound l) n P md ops Q fuel listed a w
 | 0,_,_,_,h=>h
 | fuel+1,listed,a,w,h=>⟨h.1,fun i hi=>by
  have h2:=h.2 i hi;have ih:=fun a w=>wpAnyIn_inRound l hro hd fuel (listed.setIfInBounds i true) a w
  have h3:=wpOpIn_mono ih h2;unfold wpOpIn at h3 ⊢
  cases ho:ops[i]? with
  | none=>rw [ho] at h3;exact h3
  | some o =>
   rw [ho] at h3;simp only at h3 ⊢;split
   ·rename_i hw
    rw [if_pos hw] at h3;refine ⟨h3.1,?_⟩;have h4:=h3.2;rw [hro,Oper.semAt_none] at h4
    show o.uponIn (F.inRound l) n P a _ Q ((o.semAt (some l) a.eval).run P w)
    rw [Oper.semAt_some l a.eval o (hd i o ho)];exact h4
   ·rename_i hw
    rw [if_neg hw] at h3
    exact h3⟩
theorem no_defer {ops:Array Oper} (h:(ops.all fun o=>match o.op with | .defer _=>false | _=>true)=true):∀ (i:Nat) (o:Oper),ops[i]?=some o→∀ c,o.op≠.defer c:=fun i o ho c e=>by
 have h1:=Array.all_eq_true_iff_forall_mem.1 h o (Array.mem_of_getElem? ho)
 rw [e] at h1
 exact Bool.noConfusion h1
theorem wpIn_region_round {id : Nat} {a : Act} {w : World} {l : Nat} (hro : F.round = none) (hm : P.follows .mixedOrders = true) (hd : (ops.all fun o => match o.op with | .defer _ => false | _ => true) = true)
    (h:wpAnyIn F n P .any ops Q ops.size (Array.replicate ops.size false) a w.drew):(Code.region id ops true).wpIn (F.inRound l) n P Q a w :=
 wpIn_region_any hm (wpAnyIn_inRound l hro (no_defer hd) _ _ _ _ h)
end Go.Proofs.YtbdealmkmpnpoaaGreat
