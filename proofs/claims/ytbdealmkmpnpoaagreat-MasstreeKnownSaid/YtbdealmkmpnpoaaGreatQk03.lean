import Derived.Test.YtbdealmkmpnpoaaGreatQk01
set_option linter.all false
namespace Go.Proofs.YtbdealmkmpnpoaaGreat.M
variable {β:Type}
abbrev Hd:=Int×Int
structure BN (β:Type) where
 leaf:Bool
 keys:List Str
 vals:List β
 kids:List Hd
 high:Str
 bnd:Bool
 next:Hd
abbrev Lev (β:Type):=List (Hd×BN β)
def BN.covers (n:BN β) (k:Str):Bool:=!n.bnd || slt k n.high
def BN.hi (n:BN β):Option Str:=if n.bnd then some n.high else none
def cut (k:Str) (l:List Str):Nat:=(l.takeWhile fun x=>slt x k).length
def cutE (k:Str) (l:List Str):Nat:=(l.takeWhile fun x=>sle x k).length
def Rises (l:List Str):Prop:=l.Pairwise fun a b=>slt a b=true
theorem cut_le (k:Str) (l:List Str):cut k l≤l.length:=(List.takeWhile_sublist _).length_le
theorem cutE_le (k:Str) (l:List Str):cutE k l≤l.length:=(List.takeWhile_sublist _).length_le
theorem cut_cons (k x:Str) (l:List Str):cut k (x::l)=if slt x k then cut k l+1 else 0:=by
 unfold cut
 rw [List.takeWhile_cons]
 split <;> simp
theorem cutE_cons (k x:Str) (l:List Str):cutE k (x::l)=if sle x k then cutE k l+1 else 0:=by
 unfold cutE
 rw [List.takeWhile_cons]
 split <;> simp
theorem cut_lt {k:Str}:∀ {l:List Str} {i:Nat} {x:Str},i < cut k l→l[i]?=some x→slt x k=true
 | [],i,x,h,_=>by simp [cut] at h
 | y::l,i,x,h,hx=>by
  rw [cut_cons] at h;by_cases hy:slt y k=true
  ·rw [if_pos hy] at h
   cases i with
   | zero=>simp at hx;rw [← hx];exact hy
   | succ i=>exact cut_lt (l:=l) (i:=i) (by omega) (by simpa using hx)
  ·rw [if_neg hy] at h;omega
theorem cut_at {k:Str}:∀ {l:List Str} {x:Str},l[cut k l]?=some x→slt x k=false
 | [],x,h=>by simp at h
 | y::l,x,h=>by
  rw [cut_cons] at h;by_cases hy:slt y k=true
  ·rw [if_pos hy] at h
   exact cut_at (l:=l) (by simpa using h)
  ·rw [if_neg hy] at h
   simp at h;rw [← h];simpa using hy
def hasK (k:Str) (l:List Str):Bool:=match l[cut k l]? with
 | some x=>decide (x=k)
 | none=>false
theorem hasK_iff {k:Str} {l:List Str}:hasK k l=true↔l[cut k l]?=some k:=by
 unfold hasK
 cases h:l[cut k l]? with
 | none=>simp
 | some x=>simp
theorem hasK_mem {k:Str} {l:List Str} (hr:Rises l):hasK k l=true↔k∈l:=by
 rw [hasK_iff]
 refine ⟨fun h=>List.mem_of_getElem? h,fun h=>?_⟩
 obtain ⟨i,hi⟩:=List.mem_iff_getElem?.1 h
 have h1:¬ i < cut k l:=fun h1=>by have:=cut_lt h1 hi;rw [slt_irrefl] at this;cases this
 have hil:=(List.getElem?_eq_some_iff.1 hi).1
 have h2:cut k l < l.length:=by omega
 rcases Nat.lt_or_ge (cut k l) i with h3 | h3
 ·have h4:=(List.pairwise_iff_getElem.1 hr) (cut k l) i h2 hil h3
  have h5:=cut_at (k:=k) (List.getElem?_eq_getElem h2);rw [(List.getElem?_eq_some_iff.1 hi).2,h5] at h4
  cases h4
 ·have:i=cut k l:=by omega
  rw [← this];exact hi
theorem cutE_eq {k:Str}:∀ {l:List Str},Rises l→cutE k l=cut k l+(if hasK k l then 1 else 0)
 | [],_=>rfl
 | y::l,hr=>by
  obtain ⟨h1,h2⟩:=List.pairwise_cons.1 hr;rw [cutE_cons,cut_cons];unfold hasK;rw [cut_cons];by_cases hy:slt y k=true
  ·rw [if_pos hy,if_pos (slt_sle hy),cutE_eq h2]
   unfold hasK;simp only [zg3];omega
  ·rw [if_neg hy]
   simp only [zg2];by_cases he:sle y k=true
   ·rw [if_pos he]
    rcases sle_or he with h3 | h3
    ·subst h3
     have:cutE y l=0:=by
      cases l with
      | nil=>rfl
      | cons z l =>
       rw [cutE_cons,if_neg];have:=h1 z (by simp);simp [sle,this]
     simp [this]
    ·exact absurd h3 hy
   ·rw [if_neg he]
    have:¬ y=k:=by
     intro h;subst h;exact he (sle_refl _)
    simp [this]
theorem mem_insert {α:Type}:∀ {l:List α} {i:Nat} {a x:α},x∈l.insertIdx i a→x=a∨x∈l
 | l,0,a,x,h=>by rw [List.insertIdx_zero] at h;exact List.mem_cons.1 h
 | [],i+1,a,x,h=>by rw [List.insertIdx_succ_nil] at h;cases h
 | y::l,i+1,a,x,h=>by
  rw [List.insertIdx_succ_cons] at h;rcases List.mem_cons.1 h with rfl | h
  ·exact .inr (by simp)
  ·rcases mem_insert h with h | h
   ·exact .inl h
   ·exact .inr (by simp [h])
theorem rises_insert {k:Str}:∀ {l:List Str},Rises l→hasK k l=false→Rises (l.insertIdx (cut k l) k)
 | [],_,_=>by simp [cut,Rises]
 | y::l,hr,hn=>by
  obtain ⟨h1,h2⟩:=List.pairwise_cons.1 hr;unfold hasK at hn;rw [cut_cons] at hn ⊢;by_cases hy:slt y k=true
  ·rw [if_pos hy] at hn ⊢
   rw [List.insertIdx_succ_cons];simp only [zg3] at hn;refine List.pairwise_cons.2 ⟨fun x hx=>?_,rises_insert h2 hn⟩;rcases mem_insert hx with rfl | hx
   ·exact hy
   ·exact h1 x hx
  ·rw [if_neg hy] at hn ⊢
   simp only [zg2] at hn;rw [List.insertIdx_zero];have hne:y≠k:=by simpa using hn
   have hky:slt k y=true:=by
    cases h:slt k y
    ·exact absurd (slt_eq (by simpa using hy) h) hne
    ·rfl
   refine List.pairwise_cons.2 ⟨fun x hx=>?_,hr⟩;rcases List.mem_cons.1 hx with rfl | hx
   ·exact hky
   ·exact slt_trans hky (h1 x hx)
theorem rises_erase {l:List Str} (h:Rises l) (i:Nat):Rises (l.eraseIdx i):=h.sublist (List.eraseIdx_sublist _ _)
theorem rises_take {l:List Str} (h:Rises l) (i:Nat):Rises (l.take i):=h.sublist (List.take_sublist _ _)
theorem rises_drop {l:List Str} (h:Rises l) (i:Nat):Rises (l.drop i):=h.sublist (List.drop_sublist _ _)
structure NodeOK (lo:Str) (n:BN β):Prop where
 rise:Rises n.keys
 low:∀ k,k∈n.keys→sle lo k=true
 cov:∀ k,k∈n.keys→n.covers k=true
 hi0:n.bnd=false→n.high=s0
 lf:n.leaf=true→n.vals.length=n.keys.length∧n.kids=[]
 inn:n.leaf=false→n.vals=[]∧n.kids.length=n.keys.length+1
 room:n.bnd=true→slt lo n.high=true
def BN.put (n:BN β) (k:Str) (v:β):BN β:=if hasK k n.keys then { n with vals:=n.vals.set (cut k n.keys) v } else { n with keys:=n.keys.insertIdx (cut k n.keys) k,vals:=n.vals.insertIdx (cut k n.keys) v }
def BN.del (n:BN β) (k:Str):BN β:=if hasK k n.keys then { n with keys:=n.keys.eraseIdx (cut k n.keys),vals:=n.vals.eraseIdx (cut k n.keys) } else n
def BN.add (n:BN β) (k:Str) (h:Hd):BN β:={ n with keys:=n.keys.insertIdx (cut k n.keys) k,kids:=n.kids.insertIdx (cut k n.keys+1) h }
def BN.mid (n:BN β):Nat:=n.keys.length / 2
def BN.sep (n:BN β):Str:=n.keys.getD n.mid s0
def BN.left (n:BN β) (nx:Hd):BN β:={ n with keys:=n.keys.take n.mid,vals:=if n.leaf then n.vals.take n.mid else n.vals,kids:=if n.leaf then n.kids else n.kids.take (n.mid+1),high:=n.sep,bnd:=true,next:=nx }
def BN.rightHalf (n:BN β):BN β:=if n.leaf then { n with keys:=n.keys.drop n.mid,vals:=n.vals.drop n.mid } else { n with keys:=n.keys.drop (n.mid+1),kids:=n.kids.drop (n.mid+1) }
theorem NodeOK.put {lo:Str} {n:BN β} (h:NodeOK lo n) (hl:n.leaf=true) {k:Str} (v:β) (hk:sle lo k=true) (hc:n.covers k=true):NodeOK lo (n.put k v):=by
 unfold BN.put
 cases hh:hasK k n.keys
 ·simp only [Bool.false_eq_true,if_false]
  have hv:=(h.lf hl).1;have:=cut_le k n.keys;refine ⟨rises_insert h.rise hh,fun x hx=>?_,fun x hx=>?_,h.hi0,fun _=>⟨?_,(h.lf hl).2⟩,(fun e=>by rw [hl] at e;cases e),h.room⟩
  ·rcases mem_insert hx with rfl | hx
   ·exact hk
   ·exact h.low x hx
  ·rcases mem_insert hx with rfl | hx
   ·exact hc
   ·exact h.cov x hx
  ·show (n.vals.insertIdx _ v).length=(n.keys.insertIdx _ k).length
   rw [List.length_insertIdx_of_le_length (by omega),List.length_insertIdx_of_le_length this,hv]
 ·simp only [if_true]
  exact ⟨h.rise,h.low,h.cov,h.hi0,fun _=>⟨by simpa using (h.lf hl).1,(h.lf hl).2⟩,(fun e=>by rw [hl] at e;cases e),h.room⟩
theorem NodeOK.del {lo:Str} {n:BN β} (h:NodeOK lo n) (hl:n.leaf=true) (k:Str):NodeOK lo (n.del k):=by
 unfold BN.del
 cases hh:hasK k n.keys
 ·simp only [Bool.false_eq_true,if_false];exact h
 ·simp only [if_true]
  have hlt:cut k n.keys < n.keys.length:=(List.getElem?_eq_some_iff.1 (hasK_iff.1 hh)).1;refine ⟨rises_erase h.rise _,fun x hx=>h.low x (List.mem_of_mem_eraseIdx hx),fun x hx=>h.cov x (List.mem_of_mem_eraseIdx hx),h.hi0,fun _=>⟨?_,(h.lf hl).2⟩,(fun e=>by rw [hl] at e;cases e),h.room⟩
  show (n.vals.eraseIdx _).length=(n.keys.eraseIdx _).length
  rw [List.length_eraseIdx_of_lt hlt,List.length_eraseIdx_of_lt (by rw [(h.lf hl).1];exact hlt),(h.lf hl).1]
theorem NodeOK.add {lo:Str} {n:BN β} (h:NodeOK lo n) (hl:n.leaf=false) {k:Str} (nx:Hd) (hh:hasK k n.keys=false) (hk:sle lo k=true) (hc:n.covers k=true):NodeOK lo (n.add k nx):=by
 have:=cut_le k n.keys
 have hkd:=(h.inn hl).2
 refine ⟨rises_insert h.rise hh,fun x hx=>?_,fun x hx=>?_,h.hi0,(fun e=>by rw [show (n.add k nx).leaf=n.leaf from rfl,hl] at e;cases e),fun _=>⟨(h.inn hl).1,?_⟩,h.room⟩
 ·rcases mem_insert hx with rfl | hx
  ·exact hk
  ·exact h.low x hx
 ·rcases mem_insert hx with rfl | hx
  ·exact hc
  ·exact h.cov x hx
 ·show (n.kids.insertIdx _ nx).length=(n.keys.insertIdx _ k).length+1
  rw [List.length_insertIdx_of_le_length (by omega),List.length_insertIdx_of_le_length this,hkd]
theorem sep_at {n:BN β} (h2:2≤n.keys.length):n.keys[n.mid]?=some n.sep:=by
 have:n.mid < n.keys.length:=by unfold BN.mid;omega
 unfold BN.sep
 rw [List.getD_eq_getElem?_getD,List.getElem?_eq_getElem this]
 rfl
theorem sep_low {lo:Str} {n:BN β} (h:NodeOK lo n) (h2:2≤n.keys.length):slt lo n.sep=true:=by
 have h1:=sep_at h2
 obtain ⟨hm,he⟩:=List.getElem?_eq_some_iff.1 h1
 have hm0:0 < n.mid:=by unfold BN.mid;omega
 have h3:=(List.pairwise_iff_getElem.1 h.rise) 0 n.mid (by omega) hm hm0
 rw [he] at h3
 exact sle_slt (h.low _ (List.getElem_mem _)) h3
theorem sep_cov {lo:Str} {n:BN β} (h:NodeOK lo n) (h2:2≤n.keys.length):n.covers n.sep=true:=h.cov _ (List.mem_of_getElem? (sep_at h2))
theorem rise_lt {l:List Str} (h:Rises l) {i j:Nat} {x y:Str} (hij:i < j) (hx:l[i]?=some x) (hy:l[j]?=some y):slt x y=true:=by
 obtain ⟨h1,rfl⟩:=List.getElem?_eq_some_iff.1 hx
 obtain ⟨h2,rfl⟩:=List.getElem?_eq_some_iff.1 hy
 exact (List.pairwise_iff_getElem.1 h) i j h1 h2 hij
theorem NodeOK.left {lo:Str} {n:BN β} (h:NodeOK lo n) (h2:2≤n.keys.length) (nx:Hd):NodeOK lo (n.left nx):=by
 have hm:n.mid < n.keys.length:=by unfold BN.mid;omega
 refine ⟨rises_take h.rise _,fun k hk=>h.low k (List.mem_of_mem_take hk),fun k hk=>?_,fun e=>(by cases e),fun e=>?_,fun e=>?_,fun _=>sep_low h h2⟩
 ·obtain ⟨i,hi⟩:=List.mem_iff_getElem?.1 hk
  have hi':i < n.mid:=by
   have:=(List.getElem?_eq_some_iff.1 hi).1;simp only [BN.left,List.length_take] at this;omega
  have hx:n.keys[i]?=some k:=by simpa [BN.left,List.getElem?_take,hi'] using hi
  show (!true || slt k n.sep)=true
  simpa using rise_lt h.rise hi' hx (sep_at h2)
 ·have hl:n.leaf=true:=e
  show (if n.leaf then n.vals.take n.mid else n.vals).length=(n.keys.take n.mid).length∧(if n.leaf then n.kids else n.kids.take (n.mid+1))=[]
  rw [hl];simp [(h.lf hl).1,(h.lf hl).2]
 ·have hl:n.leaf=false:=e
  show (if n.leaf then n.vals.take n.mid else n.vals)=[]∧(if n.leaf then n.kids else n.kids.take (n.mid+1)).length=(n.keys.take n.mid).length+1
  rw [hl];simp only [Bool.false_eq_true,if_false,List.length_take];have:=(h.inn hl).2;exact ⟨(h.inn hl).1,by omega⟩
theorem NodeOK.rightHalf {lo:Str} {n:BN β} (h:NodeOK lo n) (h2:2≤n.keys.length):NodeOK n.sep n.rightHalf:=by
 have hm:n.mid < n.keys.length:=by unfold BN.mid;omega
 have hge:∀ i x,n.mid≤i→n.keys[i]?=some x→sle n.sep x=true:=fun i x hi hx=>by
  rcases Nat.lt_or_ge n.mid i with h1 | h1
  ·exact slt_sle (rise_lt h.rise h1 (sep_at h2) hx)
  ·have:i=n.mid:=by omega
   subst this;rw [sep_at h2] at hx;injection hx with hx;rw [hx];exact sle_refl _
 have hroom:n.bnd=true→slt n.sep n.high=true:=fun hb=>by
  have:=sep_cov h h2;simpa [BN.covers,hb] using this
 unfold BN.rightHalf
 cases hl:n.leaf
 ·simp only [Bool.false_eq_true,if_false]
  refine ⟨rises_drop h.rise _,fun k hk=>?_,fun k hk=>h.cov k (List.mem_of_mem_drop hk),h.hi0,(fun e=>by cases e),fun _=>⟨(h.inn hl).1,?_⟩,hroom⟩
  ·obtain ⟨i,hi⟩:=List.mem_iff_getElem?.1 hk
   simp only [List.getElem?_drop] at hi;exact hge _ _ (by omega) hi
  ·simp only [List.length_drop]
   have:=(h.inn hl).2;omega
 ·simp only [if_true]
  refine ⟨rises_drop h.rise _,fun k hk=>?_,fun k hk=>h.cov k (List.mem_of_mem_drop hk),h.hi0,fun _=>⟨?_,(h.lf hl).2⟩,(fun e=>by cases e),hroom⟩
  ·obtain ⟨i,hi⟩:=List.mem_iff_getElem?.1 hk
   simp only [List.getElem?_drop] at hi;exact hge _ _ (by omega) hi
  ·simp only [List.length_drop]
   rw [(h.lf hl).1]
variable {β:Type}
abbrev Cont (β:Type):=List (Str×β)
def first (A:Lev β) (nxt:Hd):Hd:=match A with
 | []=>nxt
 | x::_=>x.1
def Seg:Str→Lev β→Hd→Option Str→Prop
 | lo,[],_,hi=>hi=some lo
 | lo,(_,n)::A,nxt,hi=>NodeOK lo n∧n.next=first A nxt∧(if n.bnd then Seg n.high A nxt hi else A=[]∧hi=none)
def atK (R:Lev β) (k:Str):Option (Hd×BN β):=R.find? fun x=>x.2.covers k
theorem first_append (A:Lev β) (x:Hd×BN β) (B:Lev β) (nxt:Hd):first (A++x::B) nxt=first A x.1:=by cases A <;> rfl
theorem seg_append:∀ {A:Lev β} {lo:Str} {x:Hd×BN β} {B:Lev β} {nxt:Hd} {hi:Option Str},Seg lo (A++x::B) nxt hi↔∃ m,Seg lo A x.1 (some m)∧Seg m (x::B) nxt hi
 | [],lo,x,B,nxt,hi=>⟨fun h=>⟨lo,rfl,h⟩,fun ⟨m,h1,h2⟩=>by simp only [Seg,Option.some.injEq] at h1;subst h1;exact h2⟩
 | (h0,n)::A,lo,x,B,nxt,hi=>by
  simp only [List.cons_append,Seg,first_append];by_cases hb:n.bnd=true
  ·simp only [hb,if_true]
   rw [seg_append];exact ⟨fun ⟨a,b,m,c,d⟩=>⟨m,⟨a,b,c⟩,d⟩,fun ⟨m,⟨a,b,c⟩,d⟩=>⟨a,b,m,c,d⟩⟩
  ·simp only [hb]
   refine ⟨fun ⟨_,_,h,_⟩=>by simp at h,fun ⟨m,⟨_,_,_,h⟩,_⟩=>by cases h⟩
theorem seg_ok:∀ {R:Lev β} {lo:Str} {nxt:Hd} {hi:Option Str},Seg lo R nxt hi→∀ x,x∈R→∃ l,sle lo l=true∧NodeOK l x.2
 | [],_,_,_,_,x,hx=>by cases hx
 | (h0,n)::A,lo,nxt,hi,⟨a,_,c⟩,x,hx=>by
  rcases List.mem_cons.1 hx with rfl | hx
  ·exact ⟨lo,sle_refl _,a⟩
  ·by_cases hb:n.bnd=true
   ·rw [if_pos hb] at c
    obtain ⟨l,h1,h2⟩:=seg_ok c x hx;exact ⟨l,sle_trans (slt_sle (a.room hb)) h1,h2⟩
   ·rw [if_neg hb] at c
    rw [c.1] at hx;cases hx
theorem seg_low {R:Lev β} {lo:Str} {nxt:Hd} {hi:Option Str} (h:Seg lo R nxt hi) {x:Hd×BN β} (hx:x∈R) {k:Str} (hk:k∈x.2.keys):sle lo k=true:=by
 obtain ⟨l,h1,h2⟩:=seg_ok h x hx
 exact sle_trans h1 (h2.low k hk)
theorem seg_his:∀ {A:Lev β} {lo m:Str} {nxt:Hd},Seg lo A nxt (some m)→sle lo m=true∧∀ y,y∈A→∃ x,y.2.hi=some x∧sle x m=true
 | [],lo,m,_,h=>by
  simp only [Seg,Option.some.injEq] at h;subst h;exact ⟨sle_refl _,fun y hy=>by cases hy⟩
 | (h0,n)::A,lo,m,nxt,⟨a,_,c⟩=>by
  by_cases hb:n.bnd=true
  ·rw [if_pos hb] at c
   obtain ⟨h1,h2⟩:=seg_his c;refine ⟨sle_trans (slt_sle (a.room hb)) h1,fun y hy=>?_⟩;rcases List.mem_cons.1 hy with rfl | hy
   ·exact ⟨n.high,by simp [BN.hi,hb],h1⟩
   ·exact h2 y hy
  ·rw [if_neg hb] at c
   cases c.2
theorem seg_last:∀ {A:Lev β} {lo m:Str} {nxt:Hd},Seg lo A nxt (some m)→(A=[]∧m=lo)∨∃ A0 y,A=A0++[y]∧y.2.hi=some m∧y.2.next=nxt
 | [],lo,m,_,h=>by
  simp only [Seg,Option.some.injEq] at h;exact .inl ⟨rfl,h⟩
 | (h0,n)::A,lo,m,nxt,⟨a,b,c⟩=>by
  by_cases hb:n.bnd=true
  ·rw [if_pos hb] at c
   rcases seg_last c with ⟨rfl,rfl⟩ | ⟨A0,y,rfl,h1,h2⟩
   ·exact .inr ⟨[],(h0,n),rfl,by simp [BN.hi,hb],b⟩
   ·exact .inr ⟨(h0,n)::A0,y,rfl,h1,h2⟩
  ·rw [if_neg hb] at c
   cases c.2
theorem covers_hi {n:BN β} {k:Str}:n.covers k=(match n.hi with | none=>true | some x=>slt k x):=by
 unfold BN.covers BN.hi
 cases n.bnd <;> simp
theorem seg_reach {A:Lev β} {lo m k:Str} {nxt:Hd} (h:Seg lo A nxt (some m)) (hn:∀ y,y∈A→y.2.covers k=false) (hk:sle lo k=true):sle m k=true:=by
 rcases seg_last h with ⟨_,rfl⟩ | ⟨A0,y,rfl,h1,_⟩
 ·exact hk
 ·have:=hn y (by simp)
  rw [covers_hi,h1] at this;exact sle_iff.2 this
theorem seg_find {R:Lev β} {lo k:Str} {nxt:Hd}:Seg lo R nxt none→∃ x,atK R k=some x:=by
 induction R generalizing lo with
 | nil=>intro h;simp [Seg] at h
 | cons x A ih =>
  obtain ⟨h0,n⟩:=x;rintro ⟨a,_,c⟩;unfold atK;rw [List.find?_cons];by_cases hc:n.covers k=true
  ·exact ⟨(h0,n),by simp [hc]⟩
  ·have hb : n.bnd = true := by
     cases hb:n.bnd
     ·exact absurd (by simp [BN.covers,hb]) hc
     ·rfl
   rw [if_pos hb] at c;simp only [hc];exact ih c
theorem atK_split {R:Lev β} {k:Str} {x:Hd×BN β} (h:atK R k=some x):∃ A B,R=A++x::B∧x.2.covers k=true∧∀ y,y∈A→y.2.covers k=false:=by
 obtain ⟨h1,A,B,h2,h3⟩:=List.find?_eq_some_iff_append.1 h
 exact ⟨A,B,h2,h1,fun y hy=>by simpa using h3 y hy⟩
theorem atK_mk {A B:Lev β} {k:Str} {x:Hd×BN β} (hx:x.2.covers k=true) (hA:∀ y,y∈A→y.2.covers k=false):atK (A++x::B) k=some x :=
 List.find?_eq_some_iff_append.2 ⟨hx,A,B,rfl,fun y hy=>by simpa using hA y hy⟩
theorem first_uniq {α:Type} {p:α→Bool}:∀ {P Q P' Q':List α} {a b:α},P++a::P'=Q++b::Q'→(∀ x,x∈P→p x=false)→(∀ x,x∈Q→p x=false)→p a=true→p b=true→P=Q∧a=b∧P'=Q'
 | [],[],P',Q',a,b,h,_,_,_,_=>by simp at h;exact ⟨rfl,h.1,h.2⟩
 | [],q::Q,P',Q',a,b,h,_,h2,h3,_=>by
  simp at h;have:=h2 q (by simp);rw [← h.1,h3] at this;cases this
 | q::P,[],P',Q',a,b,h,h1,_,_,h4=>by
  simp at h;have:=h1 q (by simp);rw [h.1,h4] at this;cases this
 | q::P,r::Q,P',Q',a,b,h,h1,h2,h3,h4=>by
  simp only [List.cons_append,List.cons.injEq] at h;obtain ⟨e1,e2,e3⟩:=first_uniq h.2 (fun x hx=>h1 x (by simp [hx])) (fun x hx=>h2 x (by simp [hx])) h3 h4;exact ⟨by rw [h.1,e1],e2,e3⟩
def BN.pairs (n:BN β):Cont β:=n.keys.zip n.vals
def cont (R:Lev β):Cont β:=R.flatMap fun x=>x.2.pairs
def CSort (C:Cont β):Prop:=C.Pairwise fun a b=>slt a.1 b.1=true
def cget (C:Cont β) (k:Str):Option β:=(C.find? fun p=>decide (p.1=k)).map (·.2)
def cput (C:Cont β) (k:Str) (v:β):Cont β:=(C.filter fun p=>slt p.1 k)++(k,v)::C.filter fun p=>slt k p.1
def cdel (C:Cont β) (k:Str):Cont β:=C.filter fun p => !decide (p.1=k)
def cnext (C:Cont β) (k:Str) (after:Bool):Option (Str×β):=C.find? fun p=>if after then slt k p.1 else sle k p.1
theorem zip_mem {K:List Str} {V:List β} {p:Str×β} (h:p∈K.zip V):p.1∈K:=(List.of_mem_zip h).1
theorem pairs_sort {lo:Str} {n:BN β} (h:NodeOK lo n):CSort n.pairs:=by
 have:∀ (K:List Str) (V:List β),Rises K→CSort (K.zip V):=by
  intro K
  induction K with
  | nil=>intro V _;simp [CSort]
  | cons y K ih =>
   intro V hr
   cases V with
   | nil=>simp [CSort]
   | cons v V =>
    obtain ⟨h1,h2⟩:=List.pairwise_cons.1 hr;exact List.pairwise_cons.2 ⟨fun p hp=>h1 _ (zip_mem hp),ih V h2⟩
 exact this _ _ h.rise
theorem cont_mem {R:Lev β} {p:Str×β} (h:p∈cont R):∃ x,x∈R∧p.1∈x.2.keys:=by
 obtain ⟨x,hx,hp⟩:=List.mem_flatMap.1 h
 exact ⟨x,hx,zip_mem hp⟩
theorem cont_sort:∀ {R:Lev β} {lo:Str} {nxt:Hd} {hi:Option Str},Seg lo R nxt hi→CSort (cont R)
 | [],_,_,_,_=>List.Pairwise.nil
 | (h0,n)::A,lo,nxt,hi,⟨a,_,c⟩=>by
  show CSort (n.pairs++cont A)
  by_cases hb:n.bnd=true
  ·rw [if_pos hb] at c
   refine List.pairwise_append.2 ⟨pairs_sort a,cont_sort c,fun p hp q hq=>?_⟩;obtain ⟨x,hx,hk⟩:=cont_mem hq;have h1:=seg_low c hx hk;have h2:=a.cov _ (zip_mem hp);simp only [BN.covers,hb,Bool.not_true,Bool.false_or] at h2;exact slt_sle' h2 h1
  ·rw [if_neg hb] at c
   rw [c.1];simpa [cont] using pairs_sort a
theorem cont_append (A B:Lev β):cont (A++B)=cont A++cont B:=by simp [cont]
theorem cont_cons (x:Hd×BN β) (B:Lev β):cont (x::B)=x.2.pairs++cont B:=by simp [cont]
theorem cont_sides {A B : Lev β} {x : Hd × BN β} {lo k : Str} {nxt : Hd} {hi : Option Str} (h : Seg lo (A ++ x :: B) nxt hi) (hA : ∀ y, y ∈ A → y.2.covers k = false) (hx : x.2.covers k = true) :
    (∀ p,p∈cont A→slt p.1 k=true)∧(∀ p,p∈cont B→slt k p.1=true):=by
 obtain ⟨m,h1,h2⟩:=seg_append.1 h
 constructor
 ·intro p hp
  obtain ⟨y,hy,hk⟩:=cont_mem hp;obtain ⟨l,_,hok⟩:=seg_ok h1 y hy;have h3:=hok.cov _ hk;have h4:=hA y hy;rw [covers_hi] at h3 h4
  cases hq:y.2.hi with
  | none=>rw [hq] at h4;cases h4
  | some z =>
   rw [hq] at h3 h4;exact slt_sle' h3 (sle_iff.2 h4)
 ·intro p hp
  obtain ⟨y,hy,hk⟩:=cont_mem hp;obtain ⟨h0,n⟩:=x;obtain ⟨_,_,c⟩:=h2;by_cases hb:n.bnd=true
  ·rw [if_pos hb] at c
   have h3:=seg_low c hy hk;simp only [BN.covers,hb,Bool.not_true,Bool.false_or] at hx;exact slt_sle' hx h3
  ·rw [if_neg hb] at c
   rw [c.1] at hy;cases hy
section
variable {C CA P CB:Cont β} {k:Str} {v:β}
theorem filter_all {α:Type} {p:α→Bool} {l:List α} (h:∀ x,x∈l→p x=true):l.filter p=l:=List.filter_eq_self.2 h
theorem filter_none {α:Type} {p:α→Bool} {l:List α} (h:∀ x,x∈l→p x=false):l.filter p=[]:=List.filter_eq_nil_iff.2 fun x hx=>by simp [h x hx]
theorem find_none {α:Type} {p:α→Bool} {l:List α} (h:∀ x,x∈l→p x=false):l.find? p=none:=List.find?_eq_none.2 fun x hx=>by simp [h x hx]
theorem cput_mid (hA:∀ p,p∈CA→slt p.1 k=true) (hB:∀ p,p∈CB→slt k p.1=true):cput (CA++P++CB) k v=CA++cput P k v++CB:=by
 unfold cput
 rw [List.filter_append,List.filter_append,List.filter_append,List.filter_append,filter_all hA,filter_none (l:=CB) (p:=fun p=>slt p.1 k) (fun p hp=>slt_asymm (hB p hp)),
  filter_none (l:=CA) (p:=fun p=>slt k p.1) (fun p hp=>slt_asymm (hA p hp)),filter_all hB]
 simp
theorem cdel_mid (hA:∀ p,p∈CA→slt p.1 k=true) (hB:∀ p,p∈CB→slt k p.1=true):cdel (CA++P++CB) k=CA++cdel P k++CB:=by
 unfold cdel
 rw [List.filter_append,List.filter_append,filter_all (l:=CA) (fun p hp=>by simp [slt_ne (hA p hp)]),filter_all (l:=CB) (fun p hp=>by simp [Ne.symm (slt_ne (hB p hp))])]
theorem cget_mid (hA:∀ p,p∈CA→slt p.1 k=true) (hB:∀ p,p∈CB→slt k p.1=true):cget (CA++P++CB) k=cget P k:=by
 unfold cget
 rw [List.find?_append,List.find?_append,find_none (l:=CA) (fun p hp=>by simp [slt_ne (hA p hp)]),find_none (l:=CB) (fun p hp=>by simp [Ne.symm (slt_ne (hB p hp))])]
 simp
theorem cut_zip : ∀ {K : List Str} {V : List β}, Rises K → V.length = K.length →
    (K.zip V).filter (fun p=>slt p.1 k)=(K.zip V).take (cut k K)∧(K.zip V).filter (fun p=>slt k p.1)=(K.zip V).drop (cutE k K)
 | [],V,_,_=>by simp [cut,cutE]
 | y::K,[],_,h=>by simp at h
 | y::K,w::V,hr,hl=>by
  obtain ⟨h1,h2⟩:=List.pairwise_cons.1 hr;obtain ⟨i1,i2⟩:=cut_zip (V:=V) h2 (by simpa using hl);rw [cut_cons,cutE_cons,List.zip_cons_cons,List.filter_cons,List.filter_cons];by_cases hy:slt y k=true
  ·rw [if_pos hy,if_pos hy,if_neg (by simp [slt_asymm hy]),if_pos (slt_sle hy),i1,i2]
   simp
  ·rw [if_neg hy,if_neg hy]
   have hyk:sle k y=true:=by simpa [sle] using hy
   have h3:∀ p,p∈K.zip V→slt k p.1=true:=fun p hp=>sle_slt hyk (h1 _ (zip_mem hp))
   rw [filter_none (fun p hp=>slt_asymm (h3 p hp)),filter_all h3];by_cases he:sle y k=true
   ·have e : cutE k K = 0 := by
      cases K with
      | nil=>rfl
      | cons z K =>
       rw [cutE_cons,if_neg];have:=h1 z (by simp);have:=sle_slt hyk this;simp [sle,this]
    rw [if_pos he,if_neg (by simpa [sle] using he),e];simp
   ·rw [if_neg he,if_pos (by simpa [sle] using he)]
    simp
theorem zip_insert:∀ (K:List Str) (V:List β) (i:Nat),V.length=K.length→i≤K.length→(K.insertIdx i k).zip (V.insertIdx i v)=(K.zip V).take i++(k,v)::(K.zip V).drop i
 | K,V,0,_,_=>by simp
 | [],_,i+1,_,h=>by simp at h
 | y::K,[],i+1,h,_=>by simp at h
 | y::K,w::V,i+1,h,hi=>by
  rw [List.insertIdx_succ_cons,List.insertIdx_succ_cons,List.zip_cons_cons,zip_insert K V i (by simpa using h) (by simpa using hi)];simp
theorem zip_set:∀ (K:List Str) (V:List β) (i:Nat),V.length=K.length→K[i]?=some k→K.zip (V.set i v)=(K.zip V).take i++(k,v)::(K.zip V).drop (i+1)
 | [],_,i,_,h=>by simp at h
 | y::K,[],_,h,_=>by simp at h
 | y::K,w::V,0,_,h=>by simp at h;simp [h]
 | y::K,w::V,i+1,h,hi=>by
  rw [zs3,List.zip_cons_cons,zip_set K V i (by simpa using h) (by simpa using hi)];simp
theorem zip_erase:∀ (K:List Str) (V:List β) (i:Nat),V.length=K.length→(K.eraseIdx i).zip (V.eraseIdx i)=(K.zip V).take i++(K.zip V).drop (i+1)
 | [],V,i,_=>by simp
 | y::K,[],_,h=>by simp at h
 | y::K,w::V,0,_=>by simp
 | y::K,w::V,i+1,h=>by
  rw [List.eraseIdx_cons_succ,List.eraseIdx_cons_succ,List.zip_cons_cons,zip_erase K V i (by simpa using h)];simp
variable {lo:Str} {n:BN β}
theorem put_pairs (h:NodeOK lo n) (hl:n.leaf=true):(n.put k v).pairs=cput n.pairs k v:=by
 obtain ⟨e1,e2⟩:=cut_zip (k:=k) h.rise (h.lf hl).1
 unfold cput BN.pairs
 rw [e1,e2,cutE_eq h.rise]
 unfold BN.put
 cases hh:hasK k n.keys
 ·simp only [Bool.false_eq_true,if_false]
  rw [zip_insert _ _ _ (h.lf hl).1 (cut_le _ _)];rfl
 ·simp only [if_true]
  rw [zip_set _ _ _ (h.lf hl).1 (hasK_iff.1 hh)]
theorem filter_or {α:Type} (p q:α→Bool):∀ (l:List α),(l.Pairwise fun a b=>q a=true→p b=false)→l.filter (fun x=>p x || q x)=l.filter p++(l.filter fun x => !p x && q x)
 | [],_=>rfl
 | a::l,h=>by
  obtain ⟨h1,h2⟩:=List.pairwise_cons.1 h;have ih:=filter_or p q l h2;rw [List.filter_cons,List.filter_cons,List.filter_cons,ih]
  cases hp:p a
  ·cases hq:q a
   ·simp
   ·have:l.filter p=[]:=filter_none fun x hx=>h1 x hx hq
    simp [this]
  ·simp
theorem del_pairs (h:NodeOK lo n) (hl:n.leaf=true):(n.del k).pairs=cdel n.pairs k:=by
 obtain ⟨e1,e2⟩:=cut_zip (k:=k) h.rise (h.lf hl).1
 have hs:=pairs_sort h
 have e3:cdel n.pairs k=(n.pairs.filter fun p=>slt p.1 k)++n.pairs.filter fun p=>slt k p.1:=by
  unfold cdel
  have h1:(n.pairs.filter fun p => !decide (p.1=k))=n.pairs.filter fun p=>slt p.1 k || slt k p.1:=by
   refine List.filter_congr fun p _=>?_
   by_cases hp:p.1=k
   ·simp [hp,slt_irrefl]
   ·cases h1:slt p.1 k
    ·cases h2:slt k p.1
     ·exact absurd (slt_eq h1 h2) hp
     ·simp [hp]
    ·simp [hp]
  rw [h1,filter_or]
  ·congr 1
   refine List.filter_congr fun p _=>?_
   cases h1:slt k p.1
   ·simp
   ·simp [slt_asymm h1]
  ·exact hs.imp fun {a b} hab hk=>slt_asymm (slt_trans hk hab)
 rw [e3]
 unfold BN.pairs at *
 rw [e1,e2,cutE_eq h.rise]
 unfold BN.del
 cases hh:hasK k n.keys
 ·simp only [Bool.false_eq_true,if_false,Nat.add_zero]
  rw [List.take_append_drop]
 ·simp only [if_true]
  rw [zip_erase _ _ _ (h.lf hl).1]
theorem get_pairs (h:NodeOK lo n) (hl:n.leaf=true):cget n.pairs k=if hasK k n.keys then n.vals[cut k n.keys]? else none:=by
 have hv:=(h.lf hl).1
 have hget:∀ (K:List Str) (V:List β),Rises K→V.length=K.length→cget (K.zip V) k=if hasK k K then V[cut k K]? else none:=by
  intro K
  induction K with
  | nil=>intro V _ _;simp [cget,hasK]
  | cons y K ih =>
   intro V hr hl
   cases V with
   | nil=>simp at hl
   | cons w V =>
    obtain ⟨h1,h2⟩:=List.pairwise_cons.1 hr;have ih':=ih V h2 (by simpa using hl);unfold hasK cget at *;rw [cut_cons,List.zip_cons_cons,List.find?_cons];by_cases hy:slt y k=true
    ·have hne:¬ y=k:=slt_ne hy
     simp only [hne,decide_false,if_pos hy,zg3];exact ih'
    ·simp only [if_neg hy,zg2]
     by_cases he:y=k
     ·simp [he]
     ·have hyk : slt k y = true := by
        cases h:slt k y
        ·exact absurd (slt_eq (by simpa using hy) h) he
        ·rfl
      simp only [he,decide_false];rw [find_none (fun p hp=>by simp [Ne.symm (slt_ne (slt_trans hyk (h1 _ (zip_mem hp))))])];simp
 unfold BN.pairs
 exact hget _ _ h.rise hv
end
variable {β:Type}
abbrev Sk:=List (Hd×Option Str)
def covO (k:Str) (o:Option Str):Bool:=match o with
 | none=>true
 | some x=>slt k x
theorem covers_O (n:BN β) (k:Str):n.covers k=covO k n.hi:=by rw [covers_hi];cases n.hi <;> rfl
def kidsK (n:BN β):Sk:=n.kids.zip (n.keys.map some++[n.hi])
def sk (R:Lev β):Sk:=R.map fun x=>(x.1,x.2.hi)
def under (R:Lev β):Sk:=R.flatMap fun x=>kidsK x.2
theorem sk_append (A B:Lev β):sk (A++B)=sk A++sk B:=List.map_append
theorem sk_cons (x:Hd×BN β) (B:Lev β):sk (x::B)=(x.1,x.2.hi)::sk B:=rfl
theorem under_append (A B:Lev β):under (A++B)=under A++under B:=by simp [under]
theorem under_cons (x:Hd×BN β) (B:Lev β):under (x::B)=kidsK x.2++under B:=by simp [under]
theorem kids_find {k : Str} {e : Option Str} (he : covO k e = true) : ∀ {K : List Str} {H : List Hd}, H.length = K.length + 1 →
    ∃ P a Q,H.zip (K.map some++[e])=P++a::Q∧P.length=cutE k K∧covO k a.2=true∧(∀ x,x∈P→covO k x.2=false)∧H[cutE k K]?=some a.1∧a.2=(K.map some++[e]).getD (cutE k K) none
 | [],[h],_=>⟨[],(h,e),[],rfl,rfl,he,by simp,rfl,rfl⟩
 | [],[],h=>by simp at h
 | [],_::_::_,h=>by simp at h
 | y::K,[],h=>by simp at h
 | y::K,h0::H,h=>by
  rw [cutE_cons];by_cases hy:sle y k=true
  ·obtain ⟨P,a,Q,h1,h2,h3,h4,h5,h6⟩:=kids_find he (K:=K) (H:=H) (by simpa using h)
   rw [if_pos hy];refine ⟨(h0,some y)::P,a,Q,by simp [h1],by simp [h2],h3,fun x hx=>?_,by simpa using h5,by simpa using h6⟩;rcases List.mem_cons.1 hx with rfl | hx
   ·exact sle_iff.1 hy
   ·exact h4 x hx
  ·rw [if_neg hy]
   exact ⟨[],(h0,some y),H.zip (K.map some++[e]),rfl,rfl,by simpa [covO,sle] using hy,by simp,rfl,rfl⟩
theorem kids_none {lo k:Str} {n:BN β} (h:NodeOK lo n) (hn:n.covers k=false):∀ x,x∈kidsK n→covO k x.2=false:=by
 intro x hx
 have h1:=(List.of_mem_zip hx).2
 rw [covers_O] at hn
 rcases List.mem_append.1 h1 with h2 | h2
 ·obtain ⟨y,hy,e⟩:=List.mem_map.1 h2
  have h3:=h.cov y hy;rw [covers_O] at h3;rw [← e]
  cases hq:n.hi with
  | none=>rw [hq] at hn;cases hn
  | some z =>
   rw [hq] at hn h3;exact sle_iff.1 (slt_sle (slt_sle' h3 (sle_iff.2 hn)))
 ·simp only [List.mem_singleton] at h2
  rw [h2];exact hn
structure LevOK (lf:Bool) (R:Lev β):Prop where
 seg:Seg s0 R (0,0) none
 lf:∀ x,x∈R→x.2.leaf=lf
theorem LevOK.node {lf:Bool} {R:Lev β} (h:LevOK lf R) {x:Hd×BN β} (hx:x∈R):∃ l,NodeOK l x.2:=by
 obtain ⟨l,_,h1⟩:=seg_ok h.seg x hx
 exact ⟨l,h1⟩
theorem under_none {R:Lev β} {k:Str} (hok:∀ x,x∈R→∃ l,NodeOK l x.2) (hn:∀ x,x∈R→x.2.covers k=false):∀ y,y∈under R→covO k y.2=false:=by
 intro y hy
 obtain ⟨x,hx,hy⟩:=List.mem_flatMap.1 hy
 obtain ⟨l,hl⟩:=hok x hx
 exact kids_none hl (hn x hx) y hy
theorem over_find {R S : Lev β} {k : Str} {h : Hd} {n : BN β} (hR : LevOK false R) (hs : sk S = under R) (ha : atK R k = some (h, n)) :
    ∃ A B A' B' y P Q,S=A++y::B∧R=A'++(h,n)::B'∧atK S k=some y∧n.kids[cutE k n.keys]?=some y.1∧sk A=under A'++P∧kidsK n=P++(y.1,y.2.hi)::Q∧sk B=Q++under B'∧P.length=cutE k n.keys ∧
     y.2.hi=(n.keys.map some++[n.hi]).getD (cutE k n.keys) none∧y.2.covers k=true∧(∀ z,z∈A→z.2.covers k=false)∧(∀ z,z∈A'→z.2.covers k=false)∧n.covers k=true:=by
 obtain ⟨A',B',e1,hc,hA'⟩:=atK_split ha
 obtain ⟨l,hok⟩:=hR.node (x:=(h,n)) (by rw [e1];simp)
 have hlen:=(hok.inn (hR.lf (h,n) (by rw [e1];simp))).2
 have hc':covO k n.hi=true:=by rw [← covers_O];exact hc
 obtain ⟨P,a,Q,k1,k2,k3,k4,k5,k6⟩:=kids_find hc' hlen
 have hX:∀ x,x∈under A'→covO k x.2=false:=under_none (fun x hx=>hR.node (by rw [e1];simp [hx])) hA'
 rw [e1,under_append,under_cons,show kidsK (h,n).2=P++a::Q from k1] at hs
 have hs':sk S=(under A'++P)++(a::(Q++under B')):=by rw [hs];simp
 obtain ⟨A,S2,e2,e3,e4⟩:=List.map_eq_append_iff.1 hs'
 obtain ⟨y,B,e5,e6,e7⟩:=List.map_eq_cons_iff.1 e4
 subst e5
 subst e6
 have hyc:y.2.covers k=true:=by rw [covers_O];exact k3
 have hAc:∀ z,z∈A→z.2.covers k=false:=fun z hz=>by
  rw [covers_O];have:(z.1,z.2.hi)∈under A'++P:=by rw [← e3];exact List.mem_map_of_mem hz
  rcases List.mem_append.1 this with h1 | h1
  ·exact hX _ h1
  ·exact k4 _ h1
 exact ⟨A,B,A',B',y,P,Q,e2,e1,by rw [e2];exact atK_mk hyc hAc,k5,e3,k1,e7,k2,k6,hyc,hAc,hA',hc⟩
theorem seg_replace {A B : Lev β} {h : Hd} {n : BN β} {lo : Str} {nxt : Hd} {hi : Option Str} (hs : Seg lo (A ++ (h, n) :: B) nxt hi) :
    ∃ m,Seg lo A h (some m)∧NodeOK m n∧sle lo m=true∧∀ n',NodeOK m n'→n'.high=n.high→n'.bnd=n.bnd→n'.next=n.next→Seg lo (A++(h,n')::B) nxt hi:=by
 obtain ⟨m,h1,h2,h3,h4⟩:=seg_append.1 hs
 refine ⟨m,h1,h2,(seg_his h1).1,fun n' k1 k2 k3 k4=>seg_append.2 ⟨m,h1,k1,by rw [k4];exact h3,?_⟩⟩
 rw [k3,k2];exact h4
theorem rightHalf_ends (n:BN β):n.rightHalf.high=n.high∧n.rightHalf.bnd=n.bnd∧n.rightHalf.next=n.next∧n.rightHalf.leaf=n.leaf:=by
 unfold BN.rightHalf
 cases n.leaf <;> exact ⟨rfl,rfl,rfl,by simp [*]⟩
theorem rightHalf_hi (n:BN β):n.rightHalf.hi=n.hi:=by
 obtain ⟨h1,h2,_⟩:=rightHalf_ends n
 unfold BN.hi
 rw [h1,h2]
theorem seg_split {A B:Lev β} {h nx:Hd} {n:BN β} {lo:Str} {nxt:Hd} {hi:Option Str} (hs:Seg lo (A++(h,n)::B) nxt hi) (h2:2≤n.keys.length):Seg lo (A++(h,n.left nx)::(nx,n.rightHalf)::B) nxt hi:=by
 obtain ⟨m,k1,k2,k3,k4⟩:=seg_append.1 hs
 obtain ⟨r1,r2,r3,_⟩:=rightHalf_ends n
 refine seg_append.2 ⟨m,k1,k2.left h2 nx,rfl,?_⟩
 show if true=true then _ else _
 rw [if_pos rfl]
 refine ⟨k2.rightHalf h2,by rw [r3];exact k3,?_⟩
 rw [r1,r2]
 exact k4
theorem kids_split {lo:Str} {n:BN β} (h:NodeOK lo n) (hl:n.leaf=false) (h2:2≤n.keys.length) (nx:Hd):kidsK (n.left nx)++kidsK n.rightHalf=kidsK n:=by
 have hm:n.mid < n.keys.length:=by unfold BN.mid;omega
 have hlen:=(h.inn hl).2
 have e1:kidsK (n.left nx)=(n.kids.take (n.mid+1)).zip ((n.keys.take n.mid).map some++[some n.sep]):=by
  unfold kidsK;simp [BN.left,hl,BN.hi]
 have e2:kidsK n.rightHalf=(n.kids.drop (n.mid+1)).zip ((n.keys.drop (n.mid+1)).map some++[n.hi]):=by
  unfold kidsK;rw [rightHalf_hi];simp [BN.rightHalf,hl]
 rw [e1,e2,← List.zip_append (by simp;omega),List.take_append_drop]
 unfold kidsK
 congr 1
 have e3:n.keys=n.keys.take n.mid++n.sep::n.keys.drop (n.mid+1):=by
  have h3:=sep_at h2;obtain ⟨_,h4⟩:=List.getElem?_eq_some_iff.1 h3;rw [← h4];simp
 conv=>rhs;rw [e3]
 simp
theorem cut_eq_of {k:Str} {l:List Str} {j:Nat} (hj:j≤l.length) (h1:∀ i x,i < j→l[i]?=some x→slt x k=true) (h2:∀ x,l[j]?=some x→slt x k=false):cut k l=j:=by
 rcases Nat.lt_trichotomy (cut k l) j with h | h | h
 ·have hlt:cut k l < l.length:=by omega
  have:=h1 _ _ h (List.getElem?_eq_getElem hlt);rw [cut_at (List.getElem?_eq_getElem hlt)] at this
  cases this
 ·exact h
 ·have hlt:j < l.length:=by have:=cut_le k l;omega
  have:=h2 _ (List.getElem?_eq_getElem hlt);rw [cut_lt h (List.getElem?_eq_getElem hlt)] at this
  cases this
theorem kids_add {n:BN β} {k:Str} {nx h:Hd} {e:Option Str} {P Q:Sk} (hk:kidsK n=P++(h,e)::Q) (hlen:n.kids.length=n.keys.length+1) (hP:P.length=cut k n.keys):kidsK (n.add k nx)=P++(h,some k)::(nx,e)::Q:=by
 have key : ∀ (P : Sk) (H : List Hd) (K : List Str) (z : Option Str), H.length = K.length + 1 → H.zip (K.map some ++ [z]) = P ++ (h, e) :: Q → P.length ≤ K.length →
     (H.insertIdx (P.length+1) nx).zip ((K.insertIdx P.length k).map some++[z])=P++(h,some k)::(nx,e)::Q:=by
  intro P
  induction P with
  | nil =>
   intro H K z h1 h2 _
   cases H with
   | nil=>simp at h1
   | cons a H =>
    have:K.map some++[z]≠[]:=by simp
    obtain ⟨b,T,hb⟩:=List.exists_cons_of_ne_nil this;rw [hb,List.zip_cons_cons] at h2;simp only [List.nil_append,List.cons.injEq,Prod.mk.injEq] at h2;obtain ⟨⟨rfl,rfl⟩,rfl⟩:=h2;simp only [List.length_nil,Nat.zero_add,List.insertIdx_zero,List.insertIdx_succ_cons,List.map_cons,List.cons_append,List.zip_cons_cons,List.nil_append];rw [hb,List.zip_cons_cons]
  | cons p P ih =>
   intro H K z h1 h2 h3
   cases K with
   | nil=>simp at h3
   | cons y K =>
    cases H with
    | nil=>simp at h1
    | cons a H =>
     simp only [List.map_cons,List.cons_append,List.zip_cons_cons,List.cons.injEq] at h2;have:=ih H K z (by simpa using h1) h2.2 (by simpa using h3);simp only [List.length_cons,List.insertIdx_succ_cons,List.map_cons,List.cons_append,List.zip_cons_cons,this,h2.1]
 have:=key P n.kids n.keys n.hi hlen hk (by rw [hP];exact cut_le _ _)
 rw [hP] at this
 exact this
structure Tower (Ls:List (Lev β)):Prop where
 ok:∀ i R,Ls[i]?=some R→LevOK (decide (i=0)) R
 link:∀ i S R,Ls[i]?=some S→Ls[i+1]?=some R→sk S=under R
 top:∃ x,Ls[Ls.length - 1]?=some [x]
theorem split_above {R S : Lev β} {lf : Bool} {k : Str} {h hp nx : Hd} {m n : BN β} (hS : LevOK lf S) (hR : LevOK false R) (hs : sk S = under R) (h1 : atK S k = some (h, m)) (h2 : atK R k = some (hp, n)) (hk : 2 ≤ m.keys.length) :
    ∃ A B A' B',S=A++(h,m)::B∧R=A'++(hp,n)::B'∧(∀ z,z∈A→z.2.covers k=false)∧(∀ z,z∈A'→z.2.covers k=false)∧n.covers k=true∧hasK m.sep n.keys=false∧n.covers m.sep=true ∧
     LevOK lf (A++(h,m.left nx)::(nx,m.rightHalf)::B)∧LevOK false (A'++(hp,n.add m.sep nx)::B')∧sk (A++(h,m.left nx)::(nx,m.rightHalf)::B)=under (A'++(hp,n.add m.sep nx)::B'):=by
 obtain ⟨A,B,A',B',y,P,Q,e1,e2,e3,e4,e5,e6,e7,e8,e9,e10,e11,e12,e13⟩:=over_find hR hs h2
 rw [h1] at e3
 injection e3 with e3
 subst e3
 simp only at e4 e6 e9 e10
 have hsegS:=hS.seg
 rw [e1] at hsegS
 obtain ⟨lo,s1,s2,s3,s4⟩:=seg_replace hsegS
 have hsegR:=hR.seg
 rw [e2] at hsegR
 obtain ⟨lr,r1,r2,r3,r4⟩:=seg_replace hsegR
 have hlf:n.leaf=false:=hR.lf (hp,n) (by rw [e2];simp)
 have hlen:=(r2.inn hlf).2
 have hsl:=sep_low s2 hk
 have hsc:=sep_cov s2 hk
 have hj:=cutE_le k n.keys
 have hhis:=(seg_his s1).2
 have hlow:∀ i x,i < cutE k n.keys→n.keys[i]?=some x→slt x m.sep=true:=by
  intro i x hi hx
  have hkk:(kidsK n)[i]?=some (n.kids.getD i (0,0),some x):=by
   have hil:=(List.getElem?_eq_some_iff.1 hx).1;unfold kidsK;rw [List.getElem?_zip_eq_some,List.getElem?_append_left (by simpa using hil),List.getElem?_map,hx];refine ⟨?_,rfl⟩;rw [List.getD_eq_getElem?_getD,List.getElem?_eq_getElem (by omega)];rfl
  rw [e6,List.getElem?_append_left (by omega)] at hkk;have hm:(n.kids.getD i (0,0),some x)∈sk A:=by rw [e5];exact List.mem_append.2 (.inr (List.mem_of_getElem? hkk))
  obtain ⟨z,hz,he⟩:=List.mem_map.1 hm;obtain ⟨q,hq,hle⟩:=hhis z hz;injection he with _ he;rw [hq] at he;injection he with he;rw [← he];exact sle_slt hle hsl
 have hat:∀ x,n.keys[cutE k n.keys]?=some x→slt m.sep x=true:=by
  intro x hx
  have:m.hi=some x:=by
   rw [e9,List.getD_eq_getElem?_getD,List.getElem?_append_left (by have:=(List.getElem?_eq_some_iff.1 hx).1;simpa using this),List.getElem?_map,hx];rfl
  rw [covers_O,this] at hsc;exact hsc
 have hcut:cut m.sep n.keys=cutE k n.keys:=cut_eq_of hj hlow (fun x hx=>slt_asymm (hat x hx))
 have hno:hasK m.sep n.keys=false:=by
  unfold hasK;rw [hcut]
  cases hq:n.keys[cutE k n.keys]? with
  | none=>rfl
  | some x=>simpa using Ne.symm (slt_ne (hat x hq))
 have hcov:n.covers m.sep=true:=by
  rcases Nat.lt_or_ge (cutE k n.keys) n.keys.length with h3 | h3
  ·have h4:=hat _ (List.getElem?_eq_getElem h3)
   have h5:=r2.cov _ (List.getElem_mem h3);rw [covers_O] at h5 ⊢
   cases hq:n.hi with
   | none=>rfl
   | some z =>
    rw [hq] at h5;exact slt_trans h4 h5
  ·have h4:cutE k n.keys=n.keys.length:=by omega
   rw [h4,List.getD_eq_getElem?_getD,List.getElem?_append_right (by simp)] at e9;simp at e9;rw [covers_O,← e9,← covers_O];exact hsc
 have hlr:sle lr m.sep=true:=by
  refine slt_sle (sle_slt ?_ hsl);rcases seg_last r1 with ⟨_,rfl⟩ | ⟨A0,z,rfl,q1,_⟩
  ·exact s3
  ·obtain ⟨lz,hz⟩:=hR.node (x:=z) (by rw [e2];simp)
   have hzl:z.2.leaf=false:=hR.lf z (by rw [e2];simp);have hzk:=(hz.inn hzl).2
   have hmem:(z.2.kids.getD z.2.keys.length (0,0),some lr)∈sk A:=by
    rw [e5];refine List.mem_append.2 (.inl (List.mem_flatMap.2 ⟨z,by simp,?_⟩));refine List.mem_of_getElem? (i:=z.2.keys.length) ?_;unfold kidsK;rw [List.getElem?_zip_eq_some,List.getElem?_append_right (by simp),q1];refine ⟨?_,by simp⟩;rw [List.getD_eq_getElem?_getD,List.getElem?_eq_getElem (by omega)];rfl
   obtain ⟨z',hz',he⟩:=List.mem_map.1 hmem;obtain ⟨q,hq,hle⟩:=hhis z' hz';injection he with _ he;rw [hq] at he;injection he with he;rw [← he];exact hle
 refine ⟨A,B,A',B',e1,e2,e11,e12,e13,hno,hcov,⟨seg_split hsegS hk,fun x hx=>?_⟩,⟨r4 _ (r2.add hlf nx hno hlr hcov) rfl rfl rfl,fun x hx=>?_⟩,?_⟩
 ·have hmem:∀ x,x∈A++(h,m)::B→x.2.leaf=lf:=fun x hx=>hS.lf x (by rw [e1];exact hx)
  have hm:=hmem (h,m) (by simp);simp only [List.mem_append,List.mem_cons] at hx;rcases hx with hx | rfl | rfl | hx
  ·exact hmem x (by simp [hx])
  ·exact hm
  ·rw [(rightHalf_ends m).2.2.2];exact hm
  ·exact hmem x (by simp [hx])
 ·have hmem:∀ x,x∈A'++(hp,n)::B'→x.2.leaf=false:=fun x hx=>hR.lf x (by rw [e2];exact hx)
  simp only [List.mem_append,List.mem_cons] at hx;rcases hx with hx | rfl | hx
  ·exact hmem x (by simp [hx])
  ·exact hlf
  ·exact hmem x (by simp [hx])
 ·rw [sk_append,sk_cons,sk_cons,under_append,under_cons,kids_add e6 hlen (by rw [hcut];exact e8),e5,e7,rightHalf_hi]
  simp [BN.left,BN.hi]
variable {β:Type}
theorem set_get {α:Type} {l:List α} {i j:Nat} {a b:α} (h:(l.set i a)[j]?=some b):(i=j∧b=a)∨(i≠j∧l[j]?=some b):=by
 rw [List.getElem?_set] at h
 by_cases hij:i=j
 ·rw [if_pos hij] at h
  split at h
  ·injection h with h;exact .inl ⟨hij,h.symm⟩
  ·cases h
 ·rw [if_neg hij] at h
  exact .inr ⟨hij,h⟩
theorem get_set_self {α:Type} {l:List α} {i:Nat} {a b:α} (h:l[i]?=some b):(l.set i a)[i]?=some a:=by
 rw [List.getElem?_set,if_pos rfl,if_pos (List.getElem?_eq_some_iff.1 h).1]
theorem under_split {A B:Lev β} {h nx:Hd} {m:BN β} (hS:LevOK false (A++(h,m)::B)) (hk:2≤m.keys.length):under (A++(h,m.left nx)::(nx,m.rightHalf)::B)=under (A++(h,m)::B):=by
 obtain ⟨l,hl⟩:=hS.node (x:=(h,m)) (by simp)
 rw [under_append,under_append,under_cons,under_cons,under_cons,← List.append_assoc (kidsK _),kids_split hl (hS.lf (h,m) (by simp)) hk]
section
variable {Ls:List (Lev β)}
theorem Tower.split (ht : Tower Ls) {i : Nat} {S R : Lev β} {k : Str} {h hp nx : Hd} {m n : BN β} (hS : Ls[i]? = some S) (hR : Ls[i + 1]? = some R) (h1 : atK S k = some (h, m)) (h2 : atK R k = some (hp, n)) (hk : 2 ≤ m.keys.length) :
    ∃ A B A' B',S=A++(h,m)::B∧R=A'++(hp,n)::B'∧(∀ z,z∈A→z.2.covers k=false)∧(∀ z,z∈A'→z.2.covers k=false)∧n.covers k=true∧hasK m.sep n.keys=false∧n.covers m.sep=true ∧
     Tower ((Ls.set i (A++(h,m.left nx)::(nx,m.rightHalf)::B)).set (i+1) (A'++(hp,n.add m.sep nx)::B')):=by
 have okR:=ht.ok _ _ hR
 rw [show decide (i+1=0)=false by simp] at okR
 obtain ⟨A,B,A',B',e1,e2,c1,c2,c3,c4,c5,q1,q2,q3⟩:=split_above (nx:=nx) (ht.ok _ _ hS) okR (ht.link _ _ _ hS hR) h1 h2 hk
 refine ⟨A,B,A',B',e1,e2,c1,c2,c3,c4,c5,fun j T hT=>?_,fun j T U hT hU=>?_,?_⟩
 ·rcases set_get hT with ⟨rfl,rfl⟩ | ⟨_,hT⟩
  ·simpa using q2
  ·rcases set_get hT with ⟨rfl,rfl⟩ | ⟨_,hT⟩
   ·exact q1
   ·exact ht.ok _ _ hT
 ·rcases set_get hT with ⟨rfl,rfl⟩ | ⟨n1,hT⟩
  ·
   rcases set_get hU with ⟨e,_⟩ | ⟨_,hU⟩
   ·omega
   ·rcases set_get hU with ⟨e,_⟩ | ⟨_,hU⟩
    ·omega
    ·have:=ht.link _ _ _ hR hU
     rw [e2] at this;rw [← this,sk_append,sk_append,sk_cons,sk_cons];rfl
  ·rcases set_get hT with ⟨rfl,rfl⟩ | ⟨n2,hT⟩
   ·rcases set_get hU with ⟨_,rfl⟩ | ⟨e,_⟩
    ·exact q3
    ·exact absurd rfl e
   ·rcases set_get hU with ⟨e,_⟩ | ⟨_,hU⟩
    ·omega
    ·rcases set_get hU with ⟨e,rfl⟩ | ⟨_,hU⟩
     ·have hi:decide (i=0)=false:=by simp;omega
      have okS:=ht.ok _ _ hS;rw [hi,e1] at okS;rw [under_split okS hk,← e1];exact ht.link _ _ _ hT (by rw [← e];exact hS)
     ·exact ht.link _ _ _ hT hU
 ·obtain ⟨x,hx⟩:=ht.top
  simp only [List.length_set];have hlt:=(List.getElem?_eq_some_iff.1 hR).1;by_cases he:i+1=Ls.length - 1
  ·rw [← he] at hx
   rw [hR,e2] at hx;injection hx with hx
   have h0:A'=[]∧B'=[]:=by
    cases A' with
    | nil=>simp at hx;exact ⟨rfl,hx.2⟩
    | cons a A'=>simp at hx
   refine ⟨(hp,n.add m.sep nx),?_⟩;rw [← he,List.getElem?_set,if_pos rfl,List.length_set,if_pos hlt,h0.1,h0.2];rfl
  ·refine ⟨x,?_⟩
   rw [List.getElem?_set,if_neg he,List.getElem?_set,if_neg (by omega)];exact hx
def newRoot (sep:Str) (h nx:Hd):BN β:={ leaf:=false,keys:=[sep],vals:=[],kids:=[h,nx],high:=s0,bnd:=false,next:=(0,0) }
theorem Tower.splitTop (ht : Tower Ls) {h nx top : Hd} {m : BN β} (hS : Ls[Ls.length - 1]? = some [(h, m)]) (hk : 2 ≤ m.keys.length) :
    Tower (Ls.set (Ls.length - 1) [(h,m.left nx),(nx,m.rightHalf)]++[[(top,newRoot m.sep h nx)]]):=by
 have hlt:=(List.getElem?_eq_some_iff.1 hS).1
 have okS:=ht.ok _ _ hS
 obtain ⟨s1,s2,s3⟩:=okS.seg
 have hb:m.bnd=false:=by
  cases hb:m.bnd
  ·rfl
  ·rw [if_pos hb] at s3;cases s3
 have hhi:m.hi=none:=by simp [BN.hi,hb]
 have ok1:LevOK (decide (Ls.length - 1=0)) [(h,m.left nx),(nx,m.rightHalf)]:=by
  refine ⟨seg_split (A:=[]) (B:=[]) okS.seg hk,fun x hx=>?_⟩;have hm:=okS.lf (h,m) (by simp);simp only [List.mem_cons,List.not_mem_nil,or_false] at hx;rcases hx with rfl | rfl
  ·exact hm
  ·rw [(rightHalf_ends m).2.2.2];exact hm
 have ok2:LevOK false [(top,(newRoot m.sep h nx:BN β))]:=by
  refine ⟨⟨⟨?_,?_,?_,fun _=>rfl,fun e=>by simp [newRoot] at e,fun _=>⟨rfl,rfl⟩,fun e=>by simp [newRoot] at e⟩,rfl,?_⟩,fun x hx=>by simp at hx;rw [hx];rfl⟩
  ·simp [newRoot,Rises]
  ·intro k _;exact sle_s0 k
  ·intro k _;rfl
  ·simp [newRoot]
 have hget : ∀ {j : Nat} {T : Lev β}, (Ls.set (Ls.length - 1) [(h, m.left nx), (nx, m.rightHalf)] ++ [[(top, newRoot m.sep h nx)]])[j]? = some T →
     (j=Ls.length∧T=[(top,newRoot m.sep h nx)])∨(j=Ls.length - 1∧T=[(h,m.left nx),(nx,m.rightHalf)])∨(j < Ls.length - 1∧Ls[j]?=some T):=by
  intro j T hT;rcases Nat.lt_or_ge j Ls.length with h1 | h1
  ·rw [List.getElem?_append_left (by simpa using h1)] at hT
   rcases set_get hT with ⟨e,rfl⟩ | ⟨e,hT⟩
   ·exact .inr (.inl ⟨e.symm,rfl⟩)
   ·exact .inr (.inr ⟨by omega,hT⟩)
  ·rw [List.getElem?_append_right (by simpa using h1)] at hT
   simp only [List.length_set] at hT;have h2:=(List.getElem?_eq_some_iff.1 hT).1;simp only [List.length_cons,List.length_nil] at h2;have h3:j=Ls.length:=by omega
   subst h3;simp at hT;exact .inl ⟨rfl,hT.symm⟩
 refine ⟨fun j T hT=>?_,fun j T U hT hU=>?_,⟨(top,newRoot m.sep h nx),?_⟩⟩
 ·rcases hget hT with ⟨rfl,rfl⟩ | ⟨rfl,rfl⟩ | ⟨_,hT⟩
  ·rw [show decide (Ls.length=0)=false by simp;intro e;rw [e] at hlt;simp at hlt]
   exact ok2
  ·exact ok1
  ·exact ht.ok _ _ hT
 ·rcases hget hT with ⟨rfl,rfl⟩ | ⟨rfl,rfl⟩ | ⟨h1,hT⟩
  ·rcases hget hU with ⟨e,_⟩ | ⟨e,_⟩ | ⟨e,_⟩ <;> omega
  ·rcases hget hU with ⟨e,rfl⟩ | ⟨e,_⟩ | ⟨e,_⟩
   ·rw [sk_cons,sk_cons,rightHalf_hi,hhi]
    simp [sk,under,kidsK,newRoot,BN.hi,BN.left]
   ·omega
   ·omega
  ·rcases hget hU with ⟨e,_⟩ | ⟨e,rfl⟩ | ⟨e,hU⟩
   ·omega
   ·have hi:decide (Ls.length - 1=0)=false:=by simp;omega
    rw [hi] at okS;have h2:=under_split (A:=[]) (B:=[]) (nx:=nx) okS hk;simp only [List.nil_append] at h2;rw [h2];exact ht.link _ _ _ hT (by rw [e];exact hS)
   ·exact ht.link _ _ _ hT hU
 ·simp
theorem Tower.leaf (ht : Tower Ls) {A B : Lev β} {h : Hd} {n n' : BN β} (hS : Ls[0]? = some (A ++ (h, n) :: B)) (hn : ∀ m, NodeOK m n → Seg s0 A h (some m) → NodeOK m n') (e1 : n'.high = n.high) (e2 : n'.bnd = n.bnd) (e3 : n'.next = n.next) (e4 : n'.leaf = n.leaf) :
    Tower (Ls.set 0 (A++(h,n')::B)):=by
 have okS:=ht.ok _ _ hS
 obtain ⟨m,s1,s2,s3,s4⟩:=seg_replace okS.seg
 have ok':LevOK (decide (0=0)) (A++(h,n')::B):=by
  refine ⟨s4 n' (hn m s2 s1) e1 e2 e3,fun x hx=>?_⟩;have hmem:∀ x,x∈A++(h,n)::B→x.2.leaf=decide (0=0):=fun x hx=>okS.lf x hx
  simp only [List.mem_append,List.mem_cons] at hx;rcases hx with hx | rfl | hx
  ·exact hmem x (by simp [hx])
  ·show n'.leaf=_
   rw [e4];exact hmem (h,n) (by simp)
  ·exact hmem x (by simp [hx])
 refine ⟨fun j T hT=>?_,fun j T U hT hU=>?_,?_⟩
 ·rcases set_get hT with ⟨rfl,rfl⟩ | ⟨_,hT⟩
  ·exact ok'
  ·exact ht.ok _ _ hT
 ·rcases set_get hU with ⟨e,_⟩ | ⟨_,hU⟩
  ·omega
  ·rcases set_get hT with ⟨rfl,rfl⟩ | ⟨_,hT⟩
   ·have:=ht.link _ _ _ hS hU
    rw [← this,sk_append,sk_append,sk_cons,sk_cons];have:n'.hi=n.hi:=by unfold BN.hi;rw [e1,e2]
    rw [this]
   ·exact ht.link _ _ _ hT hU
 ·obtain ⟨x,hx⟩:=ht.top
  simp only [List.length_set];by_cases he:0=Ls.length - 1
  ·rw [← he,hS] at hx
   injection hx with hx
   have h0:A=[]∧B=[]:=by
    cases A with
    | nil=>simp at hx;exact ⟨rfl,hx.2⟩
    | cons a A=>simp at hx
   refine ⟨(h,n'),?_⟩;rw [← he,get_set_self hS,h0.1,h0.2];rfl
  ·exact ⟨x,by rw [List.getElem?_set,if_neg he];exact hx⟩
def cap (i:Nat):Nat:=if i=0 then 6 else 4
theorem cap_le (i:Nat):4≤cap i∧cap i≤6:=by unfold cap;split <;> omega
def Slim (Ls:List (Lev β)):Prop:=∀ (i:Nat) (R:Lev β),Ls[i]?=some R→∀ x:Hd×BN β,x∈R→x.2.keys.length≤cap i
def Thick (Ls:List (Lev β)):Prop:=∀ (i:Nat) (R:Lev β),Ls[i]?=some R→0 < i→∀ x:Hd×BN β,x∈R→1≤x.2.keys.length
def leaves (Ls:List (Lev β)):Nat:=(Ls.getD 0 []).length
def nodes (Ls:List (Lev β)):Nat:=Ls.flatten.length
theorem under_len:∀ {R:Lev β},LevOK false R∨(∀ x:Hd×BN β,x∈R→x.2.kids.length=x.2.keys.length+1)→(∀ x:Hd×BN β,x∈R→1≤x.2.keys.length)→2*R.length≤(under R).length:=by
 intro R h hk
 have hk2:∀ x:Hd×BN β,x∈R→x.2.kids.length=x.2.keys.length+1:=by
  rcases h with h | h
  ·intro x hx
   obtain ⟨l,hl⟩:=h.node hx;exact (hl.inn (h.lf x hx)).2
  ·exact h
 clear h
 induction R with
 | nil=>simp
 | cons x R ih =>
  have:=ih (fun y hy=>hk y (by simp [hy])) (fun y hy=>hk2 y (by simp [hy]));rw [under_cons,List.length_append,List.length_cons];have h1:=hk x (by simp);have h2:=hk2 x (by simp);have h3:(kidsK x.2).length=x.2.keys.length+1:=by unfold kidsK;simp;omega
  omega
theorem Tower.halve (ht:Tower Ls) (hk:Thick Ls) {i:Nat} {S R:Lev β} (hS:Ls[i]?=some S) (hR:Ls[i+1]?=some R):2*R.length≤S.length:=by
 have okR:=ht.ok _ _ hR
 rw [show decide (i+1=0)=false by simp] at okR
 have h1:=under_len (.inl okR) (hk _ _ hR (by omega))
 rw [← ht.link _ _ _ hS hR] at h1
 simpa [sk] using h1
theorem Tower.sizes (ht:Tower Ls) (hk:Thick Ls):∀ (d i:Nat) (S:Lev β),i+d+1=Ls.length→Ls[i]?=some S→(Ls.drop i).flatten.length+1≤2*S.length∧2 ^ d≤S.length
 | 0,i,S,hd,hS=>by
  obtain ⟨x,hx⟩:=ht.top;have:i=Ls.length - 1:=by omega
  rw [← this,hS] at hx;injection hx with hx
  have h1:Ls.drop i=[S]:=by
   have hi:=(List.getElem?_eq_some_iff.1 hS);rw [List.drop_eq_getElem_cons hi.1,hi.2,List.drop_eq_nil_of_le (by omega)]
  rw [h1,hx];simp
 | d+1,i,S,hd,hS=>by
  have hi:=(List.getElem?_eq_some_iff.1 hS);have hlt:i+1 < Ls.length:=by omega
  obtain ⟨h1,h2⟩:=ht.sizes hk d (i+1) Ls[i+1] (by omega) (List.getElem?_eq_getElem hlt);have h3:=ht.halve hk hS (List.getElem?_eq_getElem hlt);rw [List.drop_eq_getElem_cons hi.1,hi.2,List.flatten_cons,List.length_append];refine ⟨by omega,?_⟩;rw [Nat.pow_succ];omega
theorem Tower.size (ht:Tower Ls) (hk:Thick Ls):nodes Ls+1≤2*leaves Ls∧2 ^ (Ls.length - 1)≤leaves Ls∧0 < Ls.length:=by
 obtain ⟨x,hx⟩:=ht.top
 have hlt:=(List.getElem?_eq_some_iff.1 hx).1
 have h0:Ls[0]?=some Ls[0]:=List.getElem?_eq_getElem (by omega)
 obtain ⟨h1,h2⟩:=ht.sizes hk (Ls.length - 1) 0 _ (by omega) h0
 have h3:leaves Ls=Ls[0].length:=by unfold leaves;rw [List.getD_eq_getElem?_getD,h0];rfl
 rw [List.drop_zero] at h1
 exact ⟨by rw [h3];exact h1,by rw [h3];exact h2,by omega⟩
end
variable {β:Type}
theorem atK_mem {R:Lev β} {k:Str} {x:Hd×BN β} (h:atK R k=some x):x∈R∧x.2.covers k=true:=by
 obtain ⟨A,B,e,h1,_⟩:=atK_split h
 exact ⟨by rw [e];simp,h1⟩
theorem mem_flat {Ls:List (Lev β)} {j:Nat} {R:Lev β} {x:Hd×BN β} (h:Ls[j]?=some R) (hx:x∈R):x∈Ls.flatten:=List.mem_flatten.2 ⟨R,List.mem_of_getElem? h,hx⟩
theorem Tower.down {Ls:List (Lev β)} (ht:Tower Ls) {j:Nat} {R:Lev β} {k:Str} {x:Hd×BN β} (hR:Ls[j+1]?=some R) (hx:atK R k=some x):∃ S y,Ls[j]?=some S∧atK S k=some y∧x.2.kids[cutE k x.2.keys]?=some y.1:=by
 have hj:j < Ls.length:=by have:=(List.getElem?_eq_some_iff.1 hR).1;omega
 have hS:Ls[j]?=some Ls[j]:=List.getElem?_eq_getElem hj
 have okR:=ht.ok _ _ hR
 rw [show decide (j+1=0)=false by simp] at okR
 obtain ⟨h,n⟩:=x
 obtain ⟨A,B,A',B',y,P,Q,_,_,e3,e4,_⟩:=over_find okR (ht.link _ _ _ hS hR) hx
 exact ⟨_,y,hS,e3,e4⟩
theorem Tower.atTop {Ls:List (Lev β)} (ht:Tower Ls) {r:Hd} {n:BN β} (h:Ls[Ls.length - 1]?=some [(r,n)]) (k:Str):atK [(r,n)] k=some (r,n):=by
 obtain ⟨x,hx⟩:=seg_find (k:=k) (ht.ok _ _ h).seg
 have:=(atK_mem hx).1
 simp at this
 rw [this] at hx
 exact hx
def content (Ls:List (Lev β)):Cont β:=cont (Ls.getD 0 [])
theorem content_of {Ls:List (Lev β)} {S:Lev β} (h:Ls[0]?=some S):content Ls=cont S:=by unfold content;rw [List.getD_eq_getElem?_getD,h];rfl
theorem Tower.get {Ls : List (Lev β)} (ht : Tower Ls) {S : Lev β} {key : Str} {y : Hd × BN β} (hS : Ls[0]? = some S) (hy : atK S key = some y) :
    (∃ l,NodeOK l y.2)∧y.2.leaf=true∧cget (content Ls) key=if hasK key y.2.keys then y.2.vals[cut key y.2.keys]? else none:=by
 have hok:=ht.ok _ _ hS
 obtain ⟨hm,hc⟩:=atK_mem hy
 obtain ⟨l,hl⟩:=hok.node hm
 have hlf:=hok.lf y hm
 refine ⟨⟨l,hl⟩,hlf,?_⟩
 obtain ⟨A,B,e,_,hA⟩:=atK_split hy
 have hseg:=hok.seg
 rw [e] at hseg
 obtain ⟨s1,s2⟩:=cont_sides hseg hA hc
 rw [content_of hS,e,cont_append,cont_cons,← List.append_assoc,cget_mid s1 s2]
 exact get_pairs hl hlf
def place (key:Str) (after:Bool) (K:List Str):Nat:=if after then cutE key K else cut key K
def hdl (key:Str) (R:Lev β):Hd:=match atK R key with
 | some x=>x.1
 | none=>(0,0)
def pathOf (Ls:List (Lev β)) (key:Str):List Hd:=(Ls.map (hdl key)).reverse
theorem hdl_of {R:Lev β} {key:Str} {x:Hd×BN β} (h:atK R key=some x):hdl key R=x.1:=by unfold hdl;rw [h]
theorem pathOf_len (Ls:List (Lev β)) (key:Str):(pathOf Ls key).length=Ls.length:=by simp [pathOf]
theorem pathOf_get {Ls:List (Lev β)} {key:Str} {j:Nat} {R:Lev β} {x:Hd×BN β} (hR:Ls[j]?=some R) (hx:atK R key=some x):(pathOf Ls key)[Ls.length - 1 - j]?=some x.1:=by
 have hj:=(List.getElem?_eq_some_iff.1 hR).1
 unfold pathOf
 rw [List.getElem?_reverse (by simp;omega)]
 simp only [List.length_map]
 rw [show Ls.length - 1 - (Ls.length - 1 - j)=j by omega,List.getElem?_map,hR]
 simp [hdl_of hx]
theorem path_step {Ls:List (Lev β)} {key:Str} {j:Nat} {S:Lev β} {z:Hd×BN β} (hS:Ls[j]?=some S) (hz:atK S key=some z):((Ls.drop j).map (hdl key)).reverse=((Ls.drop (j+1)).map (hdl key)).reverse++[z.1]:=by
 obtain ⟨hj,e⟩:=List.getElem?_eq_some_iff.1 hS
 rw [List.drop_eq_getElem_cons hj,e]
 simp [hdl_of hz]
def kcount (key:Str) (R:Lev β):Nat:=match atK R key with
 | some x=>x.2.keys.length
 | none=>0
theorem kcount_of {R:Lev β} {key:Str} {x:Hd×BN β} (h:atK R key=some x):kcount key R=x.2.keys.length:=by unfold kcount;rw [h]
theorem Tower.at {Ls:List (Lev β)} (ht:Tower Ls) {i:Nat} {R:Lev β} (hR:Ls[i]?=some R) (key:Str):∃ x,atK R key=some x:=seg_find (ht.ok _ _ hR).seg
theorem lev_set {α:Type} {Ls:List (List α)} {j:Nat} {S S':List α} (h:Ls[j]?=some S):∃ X Y,Ls.flatten=X++S++Y∧(Ls.set j S').flatten=X++S'++Y:=by
 obtain ⟨hj,e⟩:=List.getElem?_eq_some_iff.1 h
 have h1:Ls=Ls.take j++S::Ls.drop (j+1):=by rw [← e];simp
 refine ⟨(Ls.take j).flatten,(Ls.drop (j+1)).flatten,?_,?_⟩
 ·conv=>lhs;rw [h1]
  simp
 ·conv=>lhs;rw [h1]
  rw [List.set_append_right _ _ (by simp;omega)];simp [Nat.min_eq_left (Nat.le_of_lt hj)]
theorem turn_list {X Y A B : List (Hd × BN β)} {hh : Hd} {n n' : BN β} (hn : ((X ++ (A ++ (hh, n) :: B) ++ Y).map (·.1)).Nodup) :
    ((X++(A++(hh,n')::B)++Y).map (·.1))=(X++(A++(hh,n)::B)++Y).map (·.1)∧∀ x,x∈X++(A++(hh,n')::B)++Y→x=(hh,n')∨(x∈X++(A++(hh,n)::B)++Y∧x.1≠hh):=by
 refine ⟨by simp,fun x hx=>?_⟩
 have key:∀ x:Hd×BN β,x∈X∨x∈A∨x∈B∨x∈Y→x.1≠hh:=by
  intro x hx e;have hc:((X++(A++(hh,n)::B)++Y).map (·.1))=(X.map (·.1)++A.map (·.1))++hh::(B.map (·.1)++Y.map (·.1)):=by simp
  rw [hc] at hn;have h1:=(List.nodup_append.1 hn).2.2;have h2:=(List.nodup_cons.1 (List.nodup_append.1 hn).2.1).1;rcases hx with hx | hx | hx | hx
  ·exact h1 x.1 (by simp;exact .inl ⟨_,hx⟩) hh (by simp) e
  ·exact h1 x.1 (by simp;exact .inr ⟨_,hx⟩) hh (by simp) e
  ·exact h2 (by rw [← e];simp;exact .inl ⟨_,hx⟩)
  ·exact h2 (by rw [← e];simp;exact .inr ⟨_,hx⟩)
 simp only [List.mem_append,List.mem_cons] at hx
 rcases hx with (hx | hx | hx | hx) | hx
 ·exact .inr ⟨by simp [hx],key x (.inl hx)⟩
 ·exact .inr ⟨by simp [hx],key x (.inr (.inl hx))⟩
 ·exact .inl hx
 ·exact .inr ⟨by simp [hx],key x (.inr (.inr (.inl hx)))⟩
 ·exact .inr ⟨by simp [hx],key x (.inr (.inr (.inr hx)))⟩
theorem pairs_len {lo:Str} {n:BN β} (h:NodeOK lo n) (hl:n.leaf=true):n.pairs.length=n.keys.length:=by
 unfold BN.pairs
 rw [List.length_zip,(h.lf hl).1,Nat.min_self]
theorem csort_parts {C:Cont β} (h:CSort C) (k:Str):(cget C k=none∧C.length=(C.filter fun p=>slt p.1 k).length+(C.filter fun p=>slt k p.1).length)∨((∃ v,cget C k=some v)∧C.length=(C.filter fun p=>slt p.1 k).length+(C.filter fun p=>slt k p.1).length+1):=by
 induction C with
 | nil=>exact .inl ⟨rfl,rfl⟩
 | cons p C ih =>
  obtain ⟨h1,h2⟩:=List.pairwise_cons.1 h;by_cases e:p.1=k
  ·right
   refine ⟨⟨p.2,by simp [cget,e]⟩,?_⟩;have a1:C.filter (fun q=>slt q.1 k)=[]:=filter_none fun q hq=>slt_asymm (by rw [← e];exact h1 q hq)
   have a2:C.filter (fun q=>slt k q.1)=C:=filter_all fun q hq=>by rw [← e];exact h1 q hq
   rw [List.filter_cons,List.filter_cons,a1,a2,if_neg (by rw [e,slt_irrefl];simp),if_neg (by rw [e,slt_irrefl];simp)];simp
  ·have hg:cget (p::C) k=cget C k:=by unfold cget;rw [List.find?_cons,decide_eq_false e]
   rw [hg]
   have hx:(slt p.1 k=true∧slt k p.1=false)∨(slt p.1 k=false∧slt k p.1=true):=by
    cases h3:slt p.1 k
    ·cases h4:slt k p.1
     ·exact absurd (slt_eq h3 h4) e
     ·exact .inr ⟨rfl,rfl⟩
    ·exact .inl ⟨rfl,slt_asymm h3⟩
   rw [List.filter_cons,List.filter_cons];rcases ih h2 with ⟨g,l⟩ | ⟨g,l⟩
   ·refine .inl ⟨g,?_⟩
    rcases hx with ⟨x1,x2⟩ | ⟨x1,x2⟩ <;> simp [x1,x2] <;> omega
   ·refine .inr ⟨g,?_⟩
    rcases hx with ⟨x1,x2⟩ | ⟨x1,x2⟩ <;> simp [x1,x2] <;> omega
theorem cput_len {C:Cont β} (h:CSort C) (k:Str) (v:β):(cput C k v).length=if (cget C k).isSome then C.length else C.length+1:=by
 unfold cput
 rcases csort_parts h k with ⟨g,l⟩ | ⟨⟨x,g⟩,l⟩ <;> rw [g] <;> simp <;> omega
theorem cdel_len {C:Cont β} (h:CSort C) (k:Str):(cdel C k).length=(if (cget C k).isSome then C.length - 1 else C.length)∧((cget C k).isSome=true→1≤C.length):=by
 have e:cdel C k=C.filter (fun p=>slt p.1 k || slt k p.1):=by
  unfold cdel;refine List.filter_congr fun p _=>?_
  by_cases e:p.1=k
  ·rw [e,slt_irrefl];simp
  ·rw [decide_eq_false e]
   cases h3:slt p.1 k
   ·cases h4:slt k p.1
    ·exact absurd (slt_eq h3 h4) e
    ·rfl
   ·rfl
 have h1:(C.filter (fun p=>slt p.1 k || slt k p.1)).length=(C.filter fun p=>slt p.1 k).length+(C.filter fun p=>slt k p.1).length:=by
  clear h e
  induction C with
  | nil=>rfl
  | cons p C ih =>
   rw [List.filter_cons,List.filter_cons,List.filter_cons]
   cases h3:slt p.1 k
   ·cases h4:slt k p.1 <;> simp [ih];omega
   ·have h4:=slt_asymm h3
    rw [h4];simp [ih];omega
 rw [e,h1]
 rcases csort_parts h k with ⟨g,l⟩ | ⟨⟨x,g⟩,l⟩ <;> rw [g] <;> simp <;> omega
theorem Tower.del {Ls : List (Lev β)} (ht : Tower Ls) (hk : Thick Ls) {S : Lev β} {key : Str} {y : Hd × BN β} (hS : Ls[0]? = some S) (hy : atK S key = some y) :
    ∃ A B,S=A++y::B∧Tower (Ls.set 0 (A++(y.1,y.2.del key)::B))∧Thick (Ls.set 0 (A++(y.1,y.2.del key)::B))∧content (Ls.set 0 (A++(y.1,y.2.del key)::B))=cdel (content Ls) key∧(Slim Ls→Slim (Ls.set 0 (A++(y.1,y.2.del key)::B))):=by
 have hok:=ht.ok _ _ hS
 obtain ⟨hm,hc⟩:=atK_mem hy
 obtain ⟨l,hl⟩:=hok.node hm
 have hlf:y.2.leaf=true:=hok.lf y hm
 obtain ⟨A,B,e,_,hA⟩:=atK_split hy
 obtain ⟨hh,n⟩:=y
 simp only at hl hlf hc ⊢
 have hseg:=hok.seg
 rw [e] at hseg
 obtain ⟨s1,s2⟩:=cont_sides hseg hA hc
 have hends:(n.del key).high=n.high∧(n.del key).bnd=n.bnd∧(n.del key).next=n.next∧(n.del key).leaf=n.leaf∧(n.del key).keys.length≤n.keys.length:=by
  unfold BN.del;split
  ·exact ⟨rfl,rfl,rfl,rfl,List.length_eraseIdx_le ..⟩
  ·exact ⟨rfl,rfl,rfl,rfl,Nat.le_refl _⟩
 refine ⟨A,B,e,ht.leaf (by rw [← e];exact hS) (fun m hm _=>hm.del hlf key) hends.1 hends.2.1 hends.2.2.1 hends.2.2.2.1,fun j R hR hj=>?_,?_,fun hs j R hR x hx=>?_⟩
 ·rcases set_get hR with ⟨e0,_⟩ | ⟨_,hR⟩
  ·omega
  ·exact hk j R hR hj
 ·rw [content_of (get_set_self hS),content_of hS,e,cont_append,cont_cons,del_pairs hl hlf,cont_append,cont_cons,← List.append_assoc,← List.append_assoc,cdel_mid s1 s2]
 ·rcases set_get hR with ⟨rfl,rfl⟩ | ⟨_,hR⟩
  ·have hs0:=hs 0 S hS
   rw [e] at hs0;simp only [List.mem_append,List.mem_cons] at hx;rcases hx with hx | rfl | hx
   ·exact hs0 x (by simp [hx])
   ·exact Nat.le_trans hends.2.2.2.2 (hs0 (hh,n) (by simp))
   ·exact hs0 x (by simp [hx])
  ·exact hs j R hR x hx
def Fat (Ls:List (Lev β)):Prop:=Ls.length=1∨∀ S,Ls[0]?=some S→∀ x:Hd×BN β,x∈S→2≤x.2.keys.length
def lows:Str→Lev β→List (Hd×Str)
 | _,[]=>[]
 | lo,x::A=>(x.1,lo)::lows x.2.high A
def endOf:Str→Lev β→Str
 | lo,[]=>lo
 | _,x::A=>endOf x.2.high A
theorem lows_append:∀ (A:Lev β) (lo:Str) (B:Lev β),lows lo (A++B)=lows lo A++lows (endOf lo A) B
 | [],_,_=>rfl
 | x::A,lo,B=>by
  show (x.1,lo)::lows x.2.high (A++B)=_
  rw [lows_append A];rfl
theorem lows_same (A:Lev β) (lo:Str) {x y:Hd×BN β} (B:Lev β) (h1:x.1=y.1) (h2:x.2.high=y.2.high):lows lo (A++x::B)=lows lo (A++y::B):=by
 rw [lows_append,lows_append]
 show _++(x.1,_)::lows x.2.high B=_++(y.1,_)::lows y.2.high B
 rw [h1,h2]
theorem lows_split (A:Lev β) (lo:Str) {x y z:Hd×BN β} (B:Lev β) (h1:x.1=y.1) (h2:x.2.high=z.2.high):∀ a,a∈lows lo (A++x::B)→a∈lows lo (A++y::z::B):=by
 intro a ha
 rw [lows_append] at ha ⊢
 have ha':a∈lows lo A++(x.1,endOf lo A)::lows x.2.high B:=ha
 show a∈lows lo A++(y.1,endOf lo A)::(z.1,y.2.high)::lows z.2.high B
 rw [h1,h2] at ha'
 simp only [List.mem_append,List.mem_cons] at ha' ⊢
 rcases ha' with h | h | h
 ·exact .inl h
 ·exact .inr (.inl h)
 ·exact .inr (.inr (.inr h))
def Evo (Ls Ls':List (Lev β)):Prop:=∀ (j:Nat) (S:Lev β),Ls[j]?=some S→∃ S',Ls'[j]?=some S'∧∀ x,x∈lows s0 S→x∈lows s0 S'
theorem Evo.refl (Ls:List (Lev β)):Evo Ls Ls:=fun _ S h=>⟨S,h,fun _ hx=>hx⟩
theorem Evo.trans {L1 L2 L3:List (Lev β)} (h:Evo L1 L2) (k:Evo L2 L3):Evo L1 L3:=fun j S hS=>by
 obtain ⟨S',h1,h2⟩:=h j S hS
 obtain ⟨S2,h3,h4⟩:=k j S' h1
 exact ⟨S2,h3,fun x hx=>h4 x (h2 x hx)⟩
theorem Evo.set {Ls:List (Lev β)} {j:Nat} {S S':Lev β} (h:Ls[j]?=some S) (hs:∀ x,x∈lows s0 S→x∈lows s0 S'):Evo Ls (Ls.set j S'):=fun k T hT=>by
 by_cases hk:k=j
 ·subst hk
  rw [h] at hT;injection hT with hT;subst hT;exact ⟨S',get_set_self h,hs⟩
 ·exact ⟨T,by rw [List.getElem?_set,if_neg (Ne.symm hk)];exact hT,fun _ hx=>hx⟩
theorem Evo.app (Ls Ms:List (Lev β)):Evo Ls (Ls++Ms):=fun j S h=>⟨S,by rw [List.getElem?_append_left (List.getElem?_eq_some_iff.1 h).1];exact h,fun _ hx=>hx⟩
structure PutI (Ls0:List (Lev β)) (key:Str) (C:Cont β) (r:Hd) (j:Nat) (h:Hd) (n:BN β) (A B:Lev β) (Ls:List (Lev β)):Prop where
 tow:Tower Ls
 thk:Thick Ls
 len:Ls.length=Ls0.length
 up:∀ k,j < k→Ls[k]?=Ls0[k]?
 lev:Ls[j]?=some (A++(h,n)::B)
 hdl:h=hdl key (Ls0.getD j [])
 cov:n.covers key=true
 non:∀ z,z∈A→z.2.covers key=false
 le5:n.keys.length≤cap j+1
 side:∀ z,z∈A∨z∈B→z.2.keys.length≤cap j
 slim:∀ k R,k≠j→Ls[k]?=some R→∀ x,x∈R→x.2.keys.length≤cap k
 con:content Ls=C
 top:∃ n0,Ls[Ls.length - 1]?=some [(r,n0)]
 lvs:leaves Ls+(if j=0 then 1 else 0)≤leaves Ls0+1
 fat:Fat Ls0→Fat Ls
 evo:Evo Ls0 Ls
theorem leaves_of {Ls:List (Lev β)} {S:Lev β} (h:Ls[0]?=some S):leaves Ls=S.length:=by unfold leaves;rw [List.getD_eq_getElem?_getD,h];rfl
theorem put_ends (n:BN β) (k:Str) (v:β):(n.put k v).high=n.high∧(n.put k v).bnd=n.bnd∧(n.put k v).next=n.next∧(n.put k v).leaf=n.leaf∧n.keys.length≤(n.put k v).keys.length∧(n.put k v).keys.length=n.keys.length+(if hasK k n.keys then 0 else 1):=by
 have:=cut_le k n.keys
 unfold BN.put
 cases hasK k n.keys
 ·refine ⟨rfl,rfl,rfl,rfl,?_,?_⟩ <;> simp [List.length_insertIdx_of_le_length this]
 ·exact ⟨rfl,rfl,rfl,rfl,Nat.le_refl _,rfl⟩
theorem Tower.put {Ls : List (Lev β)} (ht : Tower Ls) (hk : Thick Ls) (hs : Slim Ls) {r : Hd} (top : ∃ n0, Ls[Ls.length - 1]? = some [(r, n0)]) {S : Lev β} {key : Str} {h : Hd} {n : BN β} (hS : Ls[0]? = some S) (hy : atK S key = some (h, n)) (v : β) :
    ∃ A B,S=A++(h,n)::B∧PutI Ls key (cput (content Ls) key v) r 0 h (n.put key v) A B (Ls.set 0 (A++(h,n.put key v)::B)):=by
 have hok:=ht.ok _ _ hS
 obtain ⟨hm,hc⟩:=atK_mem hy
 obtain ⟨l,hl⟩:=hok.node hm
 have hlf:n.leaf=true:=hok.lf (h,n) hm
 obtain ⟨A,B,e,_,hA⟩:=atK_split hy
 have hseg:=hok.seg
 rw [e] at hseg
 obtain ⟨s1,s2⟩:=cont_sides hseg hA hc
 have hs0:=hs 0 S hS
 obtain ⟨q1,q2,q3,q4,q5,q6⟩:=put_ends n key v
 have hn4:n.keys.length≤cap 0:=hs0 (h,n) hm
 have hset:=get_set_self (a:=A++(h,n.put key v)::B) hS
 refine ⟨A,B,e,?_⟩
 refine { tow:=?_,thk:=?_,len:=by simp,up:=?_,lev:=hset,hdl:=?_,cov:=?_,non:=hA,le5:=?_,side:=?_,slim:=?_,con:=?_,top:=?_,lvs:=?_,fat:=?_,evo:=Evo.set hS (fun x hx=>by rw [e] at hx;rw [lows_same A s0 (x:=(h,n.put key v)) (y:=(h,n)) B rfl q1];exact hx) }
 ·exact ht.leaf (by rw [← e];exact hS) (fun m hm' hsg=>hm'.put hlf v (seg_reach hsg hA (sle_s0 key)) hc) q1 q2 q3 q4
 ·intro j R hR hj
  rcases set_get hR with ⟨e0,_⟩ | ⟨_,hR⟩
  ·omega
  ·exact hk j R hR hj
 ·intro k hk0
  rw [List.getElem?_set,if_neg (by omega)]
 ·rw [List.getD_eq_getElem?_getD,hS]
  exact (hdl_of hy).symm
 ·unfold BN.covers at hc ⊢
  rw [q1,q2];exact hc
 ·rw [q6];split <;> omega
 ·intro z hz
  refine hs0 z ?_;rw [e];rcases hz with hz | hz
  ·simp [hz]
  ·simp [hz]
 ·intro k R hk0 hR x hx
  rcases set_get hR with ⟨rfl,_⟩ | ⟨_,hR⟩
  ·exact absurd rfl hk0
  ·exact hs k R hR x hx
 ·rw [content_of hset,content_of hS,e,cont_append,cont_cons,put_pairs hl hlf,cont_append,cont_cons,← List.append_assoc,← List.append_assoc,cput_mid s1 s2]
 ·obtain ⟨n0,h0⟩:=top
  simp only [List.length_set];by_cases he:Ls.length - 1=0
  ·rw [he] at h0 ⊢
   rw [hS,e] at h0;injection h0 with h0
   have:A=[]∧B=[]∧h=r:=by
    cases A with
    | nil=>simp at h0;exact ⟨rfl,h0.2,h0.1.1⟩
    | cons a A=>simp at h0
   exact ⟨_,by rw [hset,this.1,this.2.1,this.2.2];rfl⟩
  ·exact ⟨n0,by rw [List.getElem?_set,if_neg (by omega)];exact h0⟩
 ·rw [leaves_of hset,leaves_of hS,e]
  simp
 ·intro hf
  rcases hf with hf | hf
  ·exact .inl (by simpa using hf)
  ·refine .inr fun S' hS' x hx=>?_
   rw [hset] at hS';injection hS' with hS';rw [← hS'] at hx;have hf0:=hf S hS;rw [e] at hf0;simp only [List.mem_append,List.mem_cons] at hx;rcases hx with hx | rfl | hx
   ·exact hf0 x (by simp [hx])
   ·exact Nat.le_trans (hf0 (h,n) (by simp)) q5
   ·exact hf0 x (by simp [hx])
theorem half_sizes {m:BN β} {j:Nat} (h5:m.keys.length=cap j+1) (nx:Hd):2≤(m.left nx).keys.length∧(m.left nx).keys.length≤3∧2≤m.rightHalf.keys.length∧m.rightHalf.keys.length≤4∧(m.mid=2∨m.mid=3):=by
 have hc:=cap_le j
 have hm:m.mid=m.keys.length / 2:=rfl
 have hl:(m.left nx).keys.length=m.mid:=by simp [BN.left];omega
 have hr:m.rightHalf.keys.length=m.keys.length - m.mid∨m.rightHalf.keys.length=m.keys.length - (m.mid+1):=by unfold BN.rightHalf;split <;> simp
 have hcap:cap j=6∨cap j=4:=by unfold cap;split <;> simp
 omega
theorem split_pairs {lo:Str} {m:BN β} (h:NodeOK lo m) (hl:m.leaf=true) (nx:Hd):(m.left nx).pairs++m.rightHalf.pairs=m.pairs:=by
 have hv:=(h.lf hl).1
 unfold BN.pairs BN.left BN.rightHalf
 simp only [hl,if_true]
 rw [← List.zip_append (by simp [hv]),List.take_append_drop,List.take_append_drop]
theorem at_uniq {A B A' B':Lev β} {x y:Hd×BN β} {key:Str} (e:A++x::B=A'++y::B') (h1:∀ z,z∈A→z.2.covers key=false) (h2:x.2.covers key=true) (h3:∀ z,z∈A'→z.2.covers key=false) (h4:y.2.covers key=true):A=A'∧x=y∧B=B' :=
 first_uniq (p:=fun z:Hd×BN β=>z.2.covers key) e h1 h3 h2 h4
variable {Ls0 Ls:List (Lev β)} {key:Str} {C:Cont β} {r:Hd} {j:Nat} {hh:Hd} {m:BN β} {A B:Lev β}
theorem cap_succ (j:Nat):cap (j+1)=4:=by simp [cap]
theorem PutI.node (h:PutI Ls0 key C r j hh m A B Ls):(∃ lo,NodeOK lo m)∧m.leaf=decide (j=0):=by
 have hok:=h.tow.ok _ _ h.lev
 exact ⟨hok.node (x:=(hh,m)) (by simp),hok.lf (hh,m) (by simp)⟩
theorem PutI.fin (h:PutI Ls0 key C r j hh m A B Ls) (h4:m.keys.length≤cap j):Slim Ls:=by
 intro k R hR x hx
 by_cases hk:k=j
 ·subst hk
  rw [h.lev] at hR;injection hR with hR;rw [← hR] at hx;simp only [List.mem_append,List.mem_cons] at hx;rcases hx with hx | rfl | hx
  ·exact h.side x (.inl hx)
  ·exact h4
  ·exact h.side x (.inr hx)
 ·exact h.slim k R hk hR x hx
theorem PutI.step (h : PutI Ls0 key C r j hh m A B Ls) (h5 : m.keys.length = cap j + 1) (hj : j + 1 < Ls0.length) (hs0 : Slim Ls0) :
    ∃ A' hp n B',Ls[j+1]?=some (A'++(hp,n)::B')∧Ls0[j+1]?=some (A'++(hp,n)::B')∧hp=Proofs.YtbdealmkmpnpoaaGreat.M.hdl key (Ls0.getD (j+1) [])∧atK (A'++(hp,n)::B') key=some (hp,n)∧(∃ lo,NodeOK lo n)∧n.leaf=false∧n.covers m.sep=true∧hasK m.sep n.keys=false∧n.keys.length≤4 ∧
     ∀ nx,PutI Ls0 key C r (j+1) hp (n.add m.sep nx) A' B' ((Ls.set j (A++(hh,m.left nx)::(nx,m.rightHalf)::B)).set (j+1) (A'++(hp,n.add m.sep nx)::B')):=by
 obtain ⟨⟨lo,hlo⟩,hlf⟩:=h.node
 have hat:atK (A++(hh,m)::B) key=some (hh,m):=atK_mk h.cov h.non
 have hjl:j+1 < Ls.length:=by rw [h.len];exact hj
 have hR:Ls[j+1]?=some Ls[j+1]:=List.getElem?_eq_getElem hjl
 obtain ⟨R,hRe⟩:∃ R,Ls[j+1]=R:=⟨_,rfl⟩
 rw [hRe] at hR
 have okR:=h.tow.ok _ _ hR
 rw [show decide (j+1=0)=false by simp] at okR
 obtain ⟨⟨hp,n⟩,hat2⟩:=h.tow.at hR key
 obtain ⟨hmem,hnc⟩:=atK_mem hat2
 obtain ⟨A',B',e',_,hA'⟩:=atK_split hat2
 have hR0:Ls0[j+1]?=some R:=by rw [← h.up (j+1) (by omega)];exact hR
 have hcj:=cap_le j
 have hcj1:=cap_succ j
 have hn4:n.keys.length≤cap (j+1):=hs0 _ _ hR0 _ hmem
 have hsp:∀ nx,hasK m.sep n.keys=false∧n.covers m.sep=true∧Tower ((Ls.set j (A++(hh,m.left nx)::(nx,m.rightHalf)::B)).set (j+1) (A'++(hp,n.add m.sep nx)::B')):=fun nx=>by
  obtain ⟨A1,B1,A2,B2,e1,e2,c1,c2,c3,c4,c5,q⟩:=h.tow.split (nx:=nx) h.lev hR hat hat2 (by omega);obtain ⟨rfl,_,rfl⟩:=at_uniq e1 h.non h.cov c1 h.cov;rw [e'] at e2;obtain ⟨rfl,_,rfl⟩:=at_uniq e2 hA' hnc c2 hnc;exact ⟨c4,c5,q⟩
 refine ⟨A',hp,n,B',by rw [← e'];exact hR,by rw [← e'];exact hR0,?_,by rw [← e'];exact hat2,okR.node hmem,okR.lf _ hmem,(hsp (0,0)).2.1,(hsp (0,0)).1,hn4,fun nx=>?_⟩
 ·rw [List.getD_eq_getElem?_getD,hR0]
  exact (hdl_of hat2).symm
 ·obtain ⟨hno,hcs,hT⟩:=hsp nx
  obtain ⟨z1,z1',z2,z3,z4⟩:=half_sizes h5 nx
  have hadd:(n.add m.sep nx).keys.length=n.keys.length+1:=by
   show (n.keys.insertIdx (cut m.sep n.keys) m.sep).length=_
   rw [List.length_insertIdx_of_le_length (cut_le _ _)]
  have hget : ∀ {k : Nat} {T : Lev β}, ((Ls.set j (A ++ (hh, m.left nx) :: (nx, m.rightHalf) :: B)).set (j + 1) (A' ++ (hp, n.add m.sep nx) :: B'))[k]? = some T →
      (k=j+1∧T=A'++(hp,n.add m.sep nx)::B')∨(k=j∧T=A++(hh,m.left nx)::(nx,m.rightHalf)::B)∨(k≠j∧k≠j+1∧Ls[k]?=some T):=by
   intro k T hT;rcases set_get hT with ⟨e,rfl⟩ | ⟨e,hT⟩
   ·exact .inl ⟨e.symm,rfl⟩
   ·rcases set_get hT with ⟨e2,rfl⟩ | ⟨e2,hT⟩
    ·exact .inr (.inl ⟨e2.symm,rfl⟩)
    ·exact .inr (.inr ⟨fun h=>e2 h.symm,fun h=>e h.symm,hT⟩)
  have hj1:((Ls.set j (A++(hh,m.left nx)::(nx,m.rightHalf)::B)).set (j+1) (A'++(hp,n.add m.sep nx)::B'))[j+1]?=some (A'++(hp,n.add m.sep nx)::B'):=get_set_self (b:=R) (by rw [List.getElem?_set,if_neg (by omega)];exact hR)
  have hj0:((Ls.set j (A++(hh,m.left nx)::(nx,m.rightHalf)::B)).set (j+1) (A'++(hp,n.add m.sep nx)::B'))[j]?=some (A++(hh,m.left nx)::(nx,m.rightHalf)::B):=by
   rw [List.getElem?_set,if_neg (by omega)];exact get_set_self h.lev
  have hset1:(Ls.set j (A++(hh,m.left nx)::(nx,m.rightHalf)::B))[j+1]?=some (A'++(hp,n)::B'):=by
   rw [List.getElem?_set,if_neg (by omega),hR,e']
  have hevo:Evo Ls0 ((Ls.set j (A++(hh,m.left nx)::(nx,m.rightHalf)::B)).set (j+1) (A'++(hp,n.add m.sep nx)::B')) :=
   (h.evo.trans (Evo.set (S':=A++(hh,m.left nx)::(nx,m.rightHalf)::B) h.lev (lows_split (x:=(hh,m)) (y:=(hh,m.left nx)) (z:=(nx,m.rightHalf)) A s0 B rfl (rightHalf_ends m).1.symm))).trans (Evo.set (S':=A'++(hp,n.add m.sep nx)::B') hset1 (fun x hx=>by rw [lows_same A' s0 (x:=(hp,n.add m.sep nx)) (y:=(hp,n)) B' rfl rfl];exact hx))
  refine { tow:=hT,thk:=?_,len:=by simp [h.len],up:=?_,lev:=hj1,hdl:=?_,cov:=?_,non:=hA',le5:=?_,side:=?_,slim:=?_,con:=?_,top:=?_,lvs:=?_,fat:=?_,evo:=hevo }
  ·intro k T hT hk x hx
   rcases hget hT with ⟨rfl,rfl⟩ | ⟨rfl,rfl⟩ | ⟨_,_,hT⟩
   ·simp only [List.mem_append,List.mem_cons] at hx
    rcases hx with hx | rfl | hx
    ·exact h.thk _ _ hR hk x (by rw [e'];simp [hx])
    ·show 1≤(n.add m.sep nx).keys.length
     omega
    ·exact h.thk _ _ hR hk x (by rw [e'];simp [hx])
   ·simp only [List.mem_append,List.mem_cons] at hx
    rcases hx with hx | rfl | rfl | hx
    ·exact h.thk _ _ h.lev hk x (by simp [hx])
    ·show 1≤(m.left nx).keys.length
     omega
    ·show 1≤m.rightHalf.keys.length
     omega
    ·exact h.thk _ _ h.lev hk x (by simp [hx])
   ·exact h.thk _ _ hT hk x hx
  ·intro k hk
   rw [List.getElem?_set,if_neg (by omega),List.getElem?_set,if_neg (by omega)];exact h.up k (by omega)
  ·rw [List.getD_eq_getElem?_getD,hR0]
   exact (hdl_of hat2).symm
  ·exact hnc
  ·omega
  ·intro z hz
   refine hs0 _ _ hR0 z ?_;rw [e'];rcases hz with hz | hz
   ·simp [hz]
   ·simp [hz]
  ·intro k T hk hT x hx
   rcases hget hT with ⟨rfl,_⟩ | ⟨rfl,rfl⟩ | ⟨e,_,hT⟩
   ·exact absurd rfl hk
   ·simp only [List.mem_append,List.mem_cons] at hx
    rcases hx with hx | rfl | rfl | hx
    ·exact h.side x (.inl hx)
    ·show (m.left nx).keys.length≤cap _
     omega
    ·show m.rightHalf.keys.length≤cap _
     omega
    ·exact h.side x (.inr hx)
   ·exact h.slim k T e hT x hx
  ·rw [← h.con]
   by_cases h0:j=0
   ·subst h0
    rw [content_of hj0,content_of h.lev,cont_append,cont_append,cont_cons,cont_cons,cont_cons,← split_pairs hlo (by rw [hlf];simp) nx];simp only [List.append_assoc]
   ·obtain ⟨hl,_⟩:=List.getElem?_eq_some_iff.1 h.lev
    have hS0:Ls[0]?=some Ls[0]:=List.getElem?_eq_getElem (by omega);rw [content_of hS0,content_of (S:=Ls[0])];rw [List.getElem?_set,if_neg (by omega),List.getElem?_set,if_neg h0];exact hS0
  ·obtain ⟨n0,h0⟩:=h.top
   simp only [List.length_set];by_cases he:j+1=Ls.length - 1
   ·rw [← he] at h0 ⊢
    rw [hR,e'] at h0;injection h0 with h0
    have:A'=[]∧B'=[]∧hp=r:=by
     cases A' with
     | nil=>simp at h0;exact ⟨rfl,h0.2,h0.1.1⟩
     | cons a A'=>simp at h0
    exact ⟨_,by rw [hj1,this.1,this.2.1,this.2.2];rfl⟩
   ·exact ⟨n0,by rw [List.getElem?_set,if_neg he,List.getElem?_set,if_neg (by omega)];exact h0⟩
  ·have hl:=h.lvs
   rw [if_neg (by omega)];by_cases h0:j=0
   ·subst h0
    rw [leaves_of hj0];rw [leaves_of h.lev] at hl;simp at hl ⊢;omega
   ·rw [if_neg h0] at hl
    obtain ⟨hl1,_⟩:=List.getElem?_eq_some_iff.1 h.lev;have hS0:Ls[0]?=some Ls[0]:=List.getElem?_eq_getElem (by omega);rw [leaves_of (S:=Ls[0])]
    ·rw [leaves_of hS0] at hl
     omega
    ·rw [List.getElem?_set,if_neg (by omega),List.getElem?_set,if_neg h0]
     exact hS0
  ·intro hf
   rcases h.fat hf with hf | hf
   ·omega
   ·refine .inr fun S hS x hx=>?_
    rcases hget hS with ⟨e,_⟩ | ⟨rfl,rfl⟩ | ⟨_,_,hS⟩
    ·omega
    ·have hf0:=hf _ h.lev
     simp only [List.mem_append,List.mem_cons] at hx;rcases hx with hx | rfl | rfl | hx
     ·exact hf0 x (by simp [hx])
     ·show 2≤(m.left nx).keys.length
      omega
     ·exact z2
     ·exact hf0 x (by simp [hx])
    ·exact hf _ hS x hx
theorem PutI.stepTop (h : PutI Ls0 key C r j hh m A B Ls) (h5 : m.keys.length = cap j + 1) (hj : j + 1 = Ls0.length) (nx top : Hd) :
    A=[]∧B=[]∧Tower (Ls.set j [(hh,m.left nx),(nx,m.rightHalf)]++[[(top,newRoot m.sep hh nx)]])∧Thick (Ls.set j [(hh,m.left nx),(nx,m.rightHalf)]++[[(top,newRoot m.sep hh nx)]])∧Slim (Ls.set j [(hh,m.left nx),(nx,m.rightHalf)]++[[(top,newRoot m.sep hh nx)]]) ∧
     content (Ls.set j [(hh,m.left nx),(nx,m.rightHalf)]++[[(top,newRoot m.sep hh nx)]])=C∧leaves (Ls.set j [(hh,m.left nx),(nx,m.rightHalf)]++[[(top,newRoot m.sep hh nx)]])≤leaves Ls0+1∧(Fat Ls0→Fat (Ls.set j [(hh,m.left nx),(nx,m.rightHalf)]++[[(top,newRoot m.sep hh nx)]]))∧Evo Ls0 (Ls.set j [(hh,m.left nx),(nx,m.rightHalf)]++[[(top,newRoot m.sep hh nx)]]):=by
 obtain ⟨⟨lo,hlo⟩,hlf⟩:=h.node
 obtain ⟨z1,z1',z2,z3,z4⟩:=half_sizes h5 nx
 obtain ⟨hjl,_⟩:=List.getElem?_eq_some_iff.1 h.lev
 have hjL:j=Ls.length - 1:=by have:=h.len;omega
 have hcj:=cap_le j
 have hcj1:=cap_succ j
 have hcap:∀ k,4≤cap k:=fun k=>(cap_le k).1
 have hAB:A=[]∧B=[]:=by
  obtain ⟨n0,h0⟩:=h.top;rw [← hjL,h.lev] at h0;injection h0 with h0
  cases A with
  | nil=>simp at h0;exact ⟨rfl,h0.2⟩
  | cons a A=>simp at h0
 have hlev:=h.lev
 rw [hAB.1,hAB.2] at hlev
 have hT:=h.tow.splitTop (nx:=nx) (top:=top) (h:=hh) (m:=m) (by rw [← hjL];exact hlev) (by omega)
 rw [← hjL] at hT
 have hget : ∀ {k : Nat} {T : Lev β}, (Ls.set j [(hh, m.left nx), (nx, m.rightHalf)] ++ [[(top, newRoot m.sep hh nx)]])[k]? = some T →
     (k=j+1∧T=[(top,newRoot m.sep hh nx)])∨(k=j∧T=[(hh,m.left nx),(nx,m.rightHalf)])∨(k < j∧Ls[k]?=some T):=by
  intro k T hT;rcases Nat.lt_or_ge k Ls.length with h1 | h1
  ·rw [List.getElem?_append_left (by simpa using h1)] at hT
   rcases set_get hT with ⟨e,rfl⟩ | ⟨e,hT⟩
   ·exact .inr (.inl ⟨e.symm,rfl⟩)
   ·exact .inr (.inr ⟨by omega,hT⟩)
  ·rw [List.getElem?_append_right (by simpa using h1)] at hT
   simp only [List.length_set] at hT;have h2:=(List.getElem?_eq_some_iff.1 hT).1;simp only [List.length_cons,List.length_nil] at h2;have h3:k=Ls.length:=by omega
   subst h3;simp at hT;exact .inl ⟨by omega,hT.symm⟩
 have hj0:(Ls.set j [(hh,m.left nx),(nx,m.rightHalf)]++[[(top,newRoot m.sep hh nx)]])[j]?=some [(hh,m.left nx),(nx,m.rightHalf)]:=by
  rw [List.getElem?_append_left (by simpa using hjl)];exact get_set_self h.lev
 have hlow:j≠0→(Ls.set j [(hh,m.left nx),(nx,m.rightHalf)]++[[(top,newRoot m.sep hh nx)]])[0]?=Ls[0]?:=fun h0=>by
  rw [List.getElem?_append_left (by simp;omega),List.getElem?_set,if_neg h0]
 refine ⟨hAB.1,hAB.2,hT,fun k T hT hk x hx=>?_,fun k T hT x hx=>?_,?_,?_,fun hf=>?_,(h.evo.trans (Evo.set (S':=[(hh,m.left nx),(nx,m.rightHalf)]) hlev (lows_split (x:=(hh,m)) (y:=(hh,m.left nx)) (z:=(nx,m.rightHalf)) [] s0 [] rfl (rightHalf_ends m).1.symm))).trans (Evo.app _ _)⟩
 ·rcases hget hT with ⟨rfl,rfl⟩ | ⟨rfl,rfl⟩ | ⟨_,hT⟩
  ·simp only [List.mem_cons,List.not_mem_nil,or_false] at hx
   rw [hx];simp [newRoot]
  ·simp only [List.mem_cons,List.not_mem_nil,or_false] at hx
   rcases hx with rfl | rfl
   ·show 1≤(m.left nx).keys.length
    omega
   ·show 1≤m.rightHalf.keys.length
    omega
  ·exact h.thk _ _ hT hk x hx
 ·rcases hget hT with ⟨rfl,rfl⟩ | ⟨rfl,rfl⟩ | ⟨e,hT⟩
  ·simp only [List.mem_cons,List.not_mem_nil,or_false] at hx
   rw [hx];simp [newRoot];omega
  ·simp only [List.mem_cons,List.not_mem_nil,or_false] at hx
   rcases hx with rfl | rfl
   ·show (m.left nx).keys.length≤cap _
    omega
   ·show m.rightHalf.keys.length≤cap _
    omega
  ·exact h.slim k T (by omega) hT x hx
 ·rw [← h.con]
  by_cases h0:j=0
  ·subst h0
   rw [content_of hj0,content_of hlev,cont_cons,cont_cons]
   show _=cont [(hh,m)]
   rw [cont_cons,← split_pairs hlo (by rw [hlf];simp) nx];simp [cont]
  ·have hS0:Ls[0]?=some Ls[0]:=List.getElem?_eq_getElem (by omega)
   rw [content_of hS0,content_of (S:=Ls[0]) (by rw [hlow h0];exact hS0)]
 ·have hl:=h.lvs
  by_cases h0:j=0
  ·subst h0
   rw [leaves_of hj0];rw [leaves_of hlev] at hl;simp at hl ⊢;omega
  ·have hS0:Ls[0]?=some Ls[0]:=List.getElem?_eq_getElem (by omega)
   rw [if_neg h0] at hl;rw [leaves_of (S:=Ls[0]) (by rw [hlow h0];exact hS0)];rw [leaves_of hS0] at hl;omega
 ·refine .inr fun S hS x hx=>?_
  by_cases h0:j=0
  ·subst h0
   rw [hj0] at hS;injection hS with hS;rw [← hS] at hx;simp only [List.mem_cons,List.not_mem_nil,or_false] at hx;rcases hx with rfl | rfl
   ·show 2≤(m.left nx).keys.length
    omega
   ·exact z2
  ·rw [hlow h0] at hS
   rcases h.fat hf with hf | hf
   ·omega
   ·exact hf S hS x hx
open Go.Lib
variable {β:Type}
theorem find_filter {α:Type} {p q:α→Bool}:∀ {l:List α},(∀ x,x∈l→p x=true→q x=true)→(l.filter q).find? p=l.find? p
 | [],_=>rfl
 | x::l,h=>by
  have ih:=find_filter (p:=p) (q:=q) (l:=l) (fun y hy=>h y (by simp [hy]));rw [List.filter_cons]
  cases hq:q x
  ·have : p x = false := by
     cases hp:p x
     ·rfl
     ·rw [h x (by simp) hp] at hq;cases hq
   simp [this,ih]
  ·simp only [if_true]
   rw [List.find?_cons,List.find?_cons,ih]
theorem csort_lt {C:Cont β} (hC:CSort C) {i j:Nat} {p q:Str×β} (hij:i < j) (hp:C[i]?=some p) (hq:C[j]?=some q):slt p.1 q.1=true:=by
 obtain ⟨h1,rfl⟩:=List.getElem?_eq_some_iff.1 hp
 obtain ⟨h2,rfl⟩:=List.getElem?_eq_some_iff.1 hq
 exact (List.pairwise_iff_getElem.1 hC) i j h1 h2 hij
theorem cget_at {C:Cont β} (hC:CSort C) {n:Nat} {p:Str×β} (hp:C[n]?=some p):cget C p.1=some p.2:=by
 unfold cget
 have:C.find? (fun q=>decide (q.1=p.1))=some p:=by
  obtain ⟨h1,h2⟩:=List.getElem?_eq_some_iff.1 hp;refine List.find?_eq_some_iff_append.2 ⟨by simp,C.take n,C.drop (n+1),by rw [← h2];simp,fun q hq=>?_⟩;obtain ⟨i,hi⟩:=List.mem_iff_getElem?.1 hq
  have hin:i < n:=by
   have:=(List.getElem?_eq_some_iff.1 hi).1;simp only [List.length_take] at this;omega
  rw [List.getElem?_take,if_pos hin] at hi;simp [slt_ne (csort_lt hC hin hi hp)]
 rw [this]
 rfl
theorem cget_cput {C:Cont β} {k:Str} {v:β} {key:Str}:cget (cput C k v) key=if k=key then some v else cget C key:=by
 unfold cget cput
 by_cases h:k=key
 ·subst h
  rw [if_pos rfl,List.find?_append,find_none (fun p hp=>by
   have:=(List.mem_filter.1 hp).2
   simp [slt_ne this])]
  simp
 ·rw [if_neg h,List.find?_append,List.find?_cons,decide_eq_false h]
  cases h1:slt key k
  ·have h2 : slt k key = true := by
     cases h2:slt k key
     ·exact absurd (slt_eq h2 h1) h
     ·rfl
   rw [find_none (l:=C.filter fun p=>slt p.1 k) (fun p hp=>by
    have:=(List.mem_filter.1 hp).2;have:p.1≠key:=fun e=>by rw [e,h1] at this;cases this
    simp [this])]
   rw [find_filter (fun p _ hp=>by
    simp only [decide_eq_true_eq] at hp
    rw [hp];exact h2)]
   rfl
  ·rw [find_filter (p := fun p : Str × β => decide (p.1 = key)) (q := fun p : Str × β => slt p.1 k) (fun p _ hp => by
     simp only [decide_eq_true_eq] at hp
     rw [hp];exact h1)]
   rw [find_none (l:=C.filter fun p=>slt k p.1) (fun p hp=>by
    have:=(List.mem_filter.1 hp).2;have:p.1≠key:=fun e=>by rw [e,slt_asymm h1] at this;cases this
    simp [this])]
   cases List.find? (fun p=>decide (p.1=key)) C <;> rfl
theorem cget_cdel {C:Cont β} {k key:Str}:cget (cdel C k) key=if k=key then none else cget C key:=by
 unfold cget cdel
 by_cases h:k=key
 ·subst h
  rw [if_pos rfl,find_none (fun p hp=>by
   have:=(List.mem_filter.1 hp).2
   simpa using this)]
  rfl
 ·rw [if_neg h, find_filter (fun p _ hp => by
    simp only [decide_eq_true_eq] at hp;rw [hp]
    simp [Ne.symm h])]
theorem cs_put {C:Cont β} (h:CSort C) (k:Str) (v:β):CSort (cput C k v):=by
 unfold cput CSort
 refine List.pairwise_append.2 ⟨List.Pairwise.sublist List.filter_sublist h,List.pairwise_cons.2 ⟨fun p hp=>(List.mem_filter.1 hp).2,List.Pairwise.sublist List.filter_sublist h⟩,fun p hp q hq=>?_⟩
 have h1:=(List.mem_filter.1 hp).2
 rcases List.mem_cons.1 hq with rfl | hq
 ·exact h1
 ·exact slt_trans h1 (List.mem_filter.1 hq).2
theorem cs_del {C:Cont β} (h:CSort C) (k:Str):CSort (cdel C k):=List.Pairwise.sublist List.filter_sublist h
abbrev Byt:=List UInt8
abbrev bl (k:Str):Byt:=k.data.toList
abbrev bs (l:Byt):Str:=⟨l.toArray⟩
theorem bl_bs (l:Byt):bl (bs l)=l:=by simp [bl]
theorem bs_bl (k:Str):bs (bl k)=k:=by cases k;simp [bl,bs]
theorem bl_inj {a b:Str} (h:bl a=bl b):a=b:=by rw [← bs_bl a,← bs_bl b,h]
theorem bl_app (a b:Str):bl (a++b)=bl a++bl b:=by
 show (a++b).data.toList=_
 rw [ByteArray.data_append,Array.toList_append]
theorem cb_app:∀ (p a b:Byt),compareBytes (p++a) (p++b)=compareBytes a b
 | [],_,_=>rfl
 | x::p,a,b=>by
  have h:compareBytes (x::(p++a)) (x::(p++b))=compareBytes (p++a) (p++b):=by
   rw [compareBytes,if_neg (UInt8.lt_irrefl x),if_neg (UInt8.lt_irrefl x)]
  exact h.trans (cb_app p a b)
theorem cget_iff {C:Cont β} (h:CSort C) {k:Str} {v:β}:cget C k=some v↔(k,v)∈C:=by
 constructor
 ·intro hg
  unfold cget at hg
  cases hf:C.find? (fun p=>decide (p.1=k)) with
  | none=>rw [hf] at hg;cases hg
  | some p =>
   rw [hf] at hg;obtain ⟨h1,h2⟩:=List.find?_eq_some_iff_append.1 hf;simp only [decide_eq_true_eq] at h1;simp only [Option.map_some,Option.some.injEq] at hg;have:=List.mem_of_find?_eq_some hf;rw [← h1,← hg];exact this
 ·intro hm
  obtain ⟨n,hn⟩:=List.mem_iff_getElem?.1 hm;exact cget_at h hn
theorem cget_none_iff {C:Cont β} (h:CSort C) {k:Str}:cget C k=none↔∀ v,(k,v)∉C:=by
 constructor
 ·intro hg v hv
  rw [(cget_iff h).2 hv] at hg
  cases hg
 ·intro hn
  cases hg:cget C k with
  | none=>rfl
  | some v=>exact absurd ((cget_iff h).1 hg) (hn v)
theorem mem_cput {C:Cont β} (h:CSort C) {k:Str} {v:β} {k':Str} {v':β}:(k',v')∈cput C k v↔if k=k' then v'=v else (k',v')∈C:=by
 rw [← cget_iff (cs_put h k v),cget_cput]
 split
 ·constructor
  ·intro e;injection e with e;exact e.symm
  ·intro e;rw [e]
 ·exact cget_iff h
theorem mem_cdel {C:Cont β} (h:CSort C) {k k':Str} {v':β}:(k',v')∈cdel C k↔k≠k'∧(k',v')∈C:=by
 rw [← cget_iff (cs_del h k),cget_cdel]
 by_cases e:k=k'
 ·simp [e]
 ·rw [if_neg e,cget_iff h]
  simp [e]
open Go.Lib
def pad:Nat→Byt→Byt
 | 0,_=>[]
 | k+1,[]=>0::pad k []
 | k+1,a::A=>a::pad k A
theorem pad_len:∀ (k:Nat) (A:Byt),(pad k A).length=k
 | 0,_=>rfl
 | k+1,[]=>by simp [pad,pad_len k]
 | k+1,a::A=>by simp [pad,pad_len k]
theorem pad_snoc:∀ (k:Nat) (A:Byt),pad (k+1) A=pad k A++[A.getD k 0]
 | 0,[]=>rfl
 | 0,a::A=>rfl
 | k+1,[]=>by
  show 0::pad (k+1) []=0::pad k []++_
  rw [pad_snoc k []];simp
 | k+1,a::A=>by
  show a::pad (k+1) A=a::pad k A++_
  rw [pad_snoc k A];simp
theorem pad_take:∀ (k:Nat) (A:Byt),k≤A.length→pad k A=A.take k
 | 0,_,_=>by simp [pad]
 | k+1,[],h=>by simp at h
 | k+1,a::A,h=>by simp [pad,pad_take k A (by simpa using h)]
def be (L:Byt):Nat:=L.foldl (fun n x=>n*256+x.toNat) 0
theorem be_snoc (L:Byt) (x:UInt8):be (L++[x])=be L*256+x.toNat:=by simp [be]
theorem be_from (n:Nat) (L:Byt):L.foldl (fun n x=>n*256+x.toNat) n=n*256 ^ L.length+be L:=by
 induction L generalizing n with
 | nil=>simp [be]
 | cons a L ih =>
  unfold be;rw [List.foldl_cons,List.foldl_cons,ih,ih (0*256+a.toNat),List.length_cons,Nat.pow_succ];rw [Nat.zero_mul,Nat.zero_add,Nat.add_mul,Nat.mul_assoc,Nat.mul_comm 256,Nat.add_assoc]
theorem be_cons (a:UInt8) (L:Byt):be (a::L)=a.toNat*256 ^ L.length+be L:=by
 show List.foldl _ (0*256+a.toNat) L=_
 rw [be_from]
 simp
theorem be_bound:∀ L:Byt,be L < 256 ^ L.length
 | []=>by simp [be]
 | a::L=>by
  rw [be_cons,List.length_cons,Nat.pow_succ];have h1:=be_bound L;have h2:=a.toNat_lt;have h3:a.toNat*256 ^ L.length≤255*256 ^ L.length:=Nat.mul_le_mul_right _ (by omega);omega
def ube:Nat→Nat→Byt
 | 0,_=>[]
 | k+1,n=>UInt8.ofNat (n / 256 ^ k)::ube k n
theorem ube_len:∀ (k n:Nat),(ube k n).length=k
 | 0,_=>rfl
 | k+1,n=>by simp [ube,ube_len k n]
theorem ube_mod:∀ (k n m:Nat),k≤m→ube k (n % 256 ^ m)=ube k n
 | 0,_,_,_=>rfl
 | k+1,n,m,h=>by
  unfold ube;rw [ube_mod k n m (by omega)]
  congr 1
  apply UInt8.toNat_inj.1
  simp only [UInt8.toNat_ofNat'];obtain ⟨d,rfl⟩:∃ d,m=k+1+d:=⟨m - (k+1),by omega⟩;rw [Nat.pow_add,Nat.pow_succ,Nat.mul_assoc,Nat.mod_mul_right_div_self,show (2:Nat) ^ 8=256 by decide,Nat.mod_mul_right_mod]
theorem ube_be:∀ L:Byt,ube L.length (be L)=L
 | []=>rfl
 | a::L=>by
  rw [List.length_cons,be_cons];unfold ube;have h1:=be_bound L;have h0:0 < 256 ^ L.length:=by omega
  have e1:(a.toNat*256 ^ L.length+be L) / 256 ^ L.length=a.toNat:=by
   rw [Nat.add_comm,Nat.add_mul_div_right _ _ h0,Nat.div_eq_of_lt h1];omega
  have e2:ube L.length (a.toNat*256 ^ L.length+be L)=L:=by
   rw [← ube_mod L.length (a.toNat*256 ^ L.length+be L) L.length (Nat.le_refl _),Nat.add_comm,Nat.add_mul_mod_self_right,Nat.mod_eq_of_lt h1,ube_be L]
  rw [e1,e2]
  congr 1
  apply UInt8.toNat_inj.1
  simp
theorem be_inj {L M:Byt} (hl:L.length=M.length) (h:be L=be M):L=M:=by rw [← ube_be L,h,hl,ube_be]
theorem be_cmp:∀ {L M:Byt},L.length=M.length→(compareBytes L M < 0↔be L < be M)
 | [],[],_=>by simp [compareBytes,be]
 | a::L,b::M,hl=>by
  have hl':L.length=M.length:=by simpa using hl
  have ih:=be_cmp hl';have h1:=be_bound L;have h2:=be_bound M;rw [be_cons,be_cons,← hl'] at *;unfold compareBytes;by_cases hab:a < b
  ·have h3:=UInt8.lt_iff_toNat_lt.1 hab
   have h4:(a.toNat+1)*256 ^ L.length≤b.toNat*256 ^ L.length:=Nat.mul_le_mul_right _ h3;rw [Nat.add_mul] at h4;simp only [hab,if_true];omega
  ·by_cases hba:b < a
   ·have h3:=UInt8.lt_iff_toNat_lt.1 hba
    have h4:(b.toNat+1)*256 ^ L.length≤a.toNat*256 ^ L.length:=Nat.mul_le_mul_right _ h3;rw [Nat.add_mul] at h4;simp only [hab,hba,if_false,if_true];omega
   ·have e:a=b:=UInt8.le_antisymm (UInt8.not_lt.1 hba) (UInt8.not_lt.1 hab)
    subst e;simp only [hab,if_false];rw [ih];omega
def txt (e k:Nat) (A:Byt):Byt:=pad k A++[UInt8.ofNat (e+min A.length (k+1))]
theorem cb_zero:∀ {k:Nat} {L:Byt} {x y:UInt8},L.length=k→x < y→compareBytes (pad k []++[x]) (L++[y]) = -1
 | 0,[],x,y,_,h=>by simp [pad,compareBytes,h]
 | k+1,b::L,x,y,hl,h=>by
  have ih:=cb_zero (k:=k) (L:=L) (by simpa using hl) h
  show compareBytes (0::(pad k []++[x])) (b::(L++[y])) = -1
  unfold compareBytes;by_cases h0:(0:UInt8) < b
  ·simp [h0]
  ·have h1 : ¬ b < 0 := by
     intro hh;have:=UInt8.lt_iff_toNat_lt.1 hh;simp at this
   simp only [h0,h1,if_false];exact ih
theorem cb_one {x y:UInt8} (h:x < y):compareBytes [x] [y] = -1∧compareBytes [y] [x]=1:=by
 have h2:¬ y < x:=fun h2=>UInt8.lt_irrefl _ (UInt8.lt_trans h h2)
 constructor <;> unfold compareBytes
 ·rw [if_pos h]
 ·rw [if_neg h2,if_pos h]
theorem txt_nil (e:Nat):txt e 0 []=[UInt8.ofNat e]:=by simp [txt,pad]
theorem txt_one (e:Nat) (a:UInt8) (A:Byt):txt e 0 (a::A)=[UInt8.ofNat (e+1)]:=by
 unfold txt
 rw [show min (a::A).length (0+1)=1 by simp]
 rfl
theorem ofNat_lt {e:Nat} (h:e+1 < 256):UInt8.ofNat e < UInt8.ofNat (e+1):=by
 rw [UInt8.lt_iff_toNat_lt]
 simp only [UInt8.toNat_ofNat']
 omega
theorem cb_txt:∀ (k e:Nat) (A B:Byt),e+k+1 < 256→compareBytes A B=if compareBytes (txt e k A) (txt e k B)=0 then compareBytes (A.drop k) (B.drop k) else compareBytes (txt e k A) (txt e k B)
 | 0,e,[],[],_=>by rw [if_pos ((cb_eq _ _).2 rfl)];rfl
 | 0,e,[],b::B,h=>by
  rw [txt_nil,txt_one,(cb_one (ofNat_lt h)).1];rfl
 | 0,e,a::A,[],h=>by
  rw [txt_nil,txt_one,(cb_one (ofNat_lt h)).2];rfl
 | 0,e,a::A,b::B,_=>by rw [txt_one,txt_one,if_pos ((cb_eq _ _).2 rfl)];rfl
 | k+1,e,[],[],_=>by
  rw [if_pos ((cb_eq _ _).2 rfl)];rfl
 | k+1,e,[],b::B,h=>by
  have h1:UInt8.ofNat (e+min ([]:Byt).length (k+1+1)) < UInt8.ofNat (e+min (b::B).length (k+1+1)):=by
   rw [UInt8.lt_iff_toNat_lt];simp only [UInt8.toNat_ofNat',List.length_nil,List.length_cons];omega
  have:=cb_zero (pad_len (k+1) (b::B)) h1;unfold txt;rw [this];rfl
 | k+1,e,a::A,[],h=>by
  have h1:UInt8.ofNat (e+min ([]:Byt).length (k+1+1)) < UInt8.ofNat (e+min (a::A).length (k+1+1)):=by
   rw [UInt8.lt_iff_toNat_lt];simp only [UInt8.toNat_ofNat',List.length_nil,List.length_cons];omega
  have:=cb_zero (pad_len (k+1) (a::A)) h1
  have h2:compareBytes (txt e (k+1) (a::A)) (txt e (k+1) [])=1:=by
   rw [cb_swap];unfold txt;rw [this];rfl
  rw [h2];rfl
 | k+1,e,a::A,b::B,h=>by
  have ih:=cb_txt k (e+1) A B (by omega)
  have hA:txt e (k+1) (a::A)=a::txt (e+1) k A:=by
   unfold txt;rw [List.length_cons,show e+min (A.length+1) (k+1+1)=e+1+min A.length (k+1) by omega];rfl
  have hB:txt e (k+1) (b::B)=b::txt (e+1) k B:=by
   unfold txt;rw [List.length_cons,show e+min (B.length+1) (k+1+1)=e+1+min B.length (k+1) by omega];rfl
  have hc:∀ X Y:Byt,compareBytes (a::X) (b::Y)=if a < b then -1 else if b < a then 1 else compareBytes X Y:=fun X Y=>by rw [compareBytes]
  rw [hA,hB,List.drop_succ_cons,List.drop_succ_cons,hc,hc];by_cases hab:a < b
  ·simp [hab]
  ·by_cases hba:b < a
   ·simp [hab,hba]
   ·simp only [hab,hba,if_false]
    exact ih
structure Mk where
 s:Nat
 c:Nat
 deriving DecidableEq
structure MkOK (m:Mk):Prop where
 s:m.s < 18446744073709551616
 c:m.c≤9
 z:m.c < 8→m.s % 256 ^ (8 - m.c)=0
def mkOf (A:Byt):Mk:=⟨be (pad 8 A),min A.length 9⟩
def mtx (m:Mk):Byt:=ube 8 m.s++[UInt8.ofNat m.c]
theorem mtx_of (A:Byt):mtx (mkOf A)=txt 0 8 A:=by
 have h:=ube_be (pad 8 A)
 rw [pad_len] at h
 unfold mtx mkOf txt
 rw [Nat.zero_add]
 exact congrArg (·++_) h
def Mk.lt (a b:Mk):Bool:=decide (a.s < b.s) || (decide (a.s=b.s) && decide (a.c < b.c))
theorem ube_be_le {k n:Nat} (h:n < 256 ^ k):be (ube k n)=n:=by
 induction k generalizing n with
 | zero=>simp at h;simp [ube,be,h]
 | succ k ih =>
  unfold ube;rw [be_cons,ube_len];have h0:0 < 256 ^ k:=Nat.pow_pos (by decide)
  have h1:n / 256 ^ k < 256:=by
   rw [Nat.div_lt_iff_lt_mul h0];rw [Nat.pow_succ] at h;omega
  have h2:=ih (n:=n % 256 ^ k) (Nat.mod_lt _ h0);rw [ube_mod k n k (Nat.le_refl _)] at h2;rw [h2,UInt8.toNat_ofNat',show (2:Nat) ^ 8=256 by decide,Nat.mod_eq_of_lt h1,Nat.mul_comm];exact Nat.div_add_mod n (256 ^ k)
theorem mk_inj {a b:Mk} (ha:a.s < 18446744073709551616∧a.c < 256) (hb:b.s < 18446744073709551616∧b.c < 256) (h:mtx a=mtx b):a=b:=by
 unfold mtx at h
 obtain ⟨h1,h2⟩:=List.append_inj h (by rw [ube_len,ube_len])
 have e1:a.s=b.s:=by
  have:=congrArg be h1
  rwa [ube_be_le (by simpa using ha.1),ube_be_le (by simpa using hb.1)] at this
 have e2:a.c=b.c:=by
  simp only [List.cons.injEq,and_true] at h2;have:=congrArg UInt8.toNat h2;simp only [UInt8.toNat_ofNat'] at this;omega
 cases a;cases b;simp only at e1 e2;rw [e1,e2]
theorem cb_end {L M:Byt} (hl:L.length=M.length) (x y:UInt8):compareBytes (L++[x]) (M++[y])=if compareBytes L M=0 then compareBytes [x] [y] else compareBytes L M:=by
 induction L generalizing M with
 | nil =>
  cases M with
  | nil=>rfl
  | cons b M=>simp at hl
 | cons a L ih =>
  cases M with
  | nil=>simp at hl
  | cons b M =>
   have hc:∀ X Y:Byt,compareBytes (a::X) (b::Y)=if a < b then -1 else if b < a then 1 else compareBytes X Y:=fun X Y=>by rw [compareBytes]
   rw [List.cons_append,List.cons_append,hc,hc];by_cases hab:a < b
   ·simp [hab]
   ·by_cases hba:b < a
    ·simp [hab,hba]
    ·simp only [hab,hba,if_false]
     exact ih (by simpa using hl)
theorem mk_lt {a b:Mk} (ha:a.s < 18446744073709551616∧a.c < 256) (hb:b.s < 18446744073709551616∧b.c < 256):Mk.lt a b=decide (compareBytes (mtx a) (mtx b) < 0):=by
 unfold mtx
 rw [cb_end (by rw [ube_len,ube_len])]
 have hl:(ube 8 a.s).length=(ube 8 b.s).length:=by rw [ube_len,ube_len]
 have h1:=be_cmp hl
 rw [ube_be_le (by simpa using ha.1),ube_be_le (by simpa using hb.1)] at h1
 have h0:=cb_eq (ube 8 a.s) (ube 8 b.s)
 have h2:compareBytes (ube 8 a.s) (ube 8 b.s)=0↔a.s=b.s:=by
  rw [h0];refine ⟨fun h=>?_,fun h=>by rw [h]⟩;have:=congrArg be h
  rwa [ube_be_le (by simpa using ha.1),ube_be_le (by simpa using hb.1)] at this
 have hc:compareBytes [UInt8.ofNat a.c] [UInt8.ofNat b.c] < 0↔a.c < b.c:=by
  unfold compareBytes
  have e:UInt8.ofNat a.c < UInt8.ofNat b.c↔a.c < b.c:=by
   rw [UInt8.lt_iff_toNat_lt];simp only [UInt8.toNat_ofNat'];rw [Nat.mod_eq_of_lt (by omega),Nat.mod_eq_of_lt (by omega)]
  by_cases h:a.c < b.c
  ·rw [if_pos (e.2 h)]
   simp [h]
  ·rw [if_neg (fun hh=>h (e.1 hh))]
   split <;> simp [h,compareBytes]
 unfold Mk.lt
 by_cases hs:a.s=b.s
 ·rw [if_pos (h2.2 hs)]
  rw [Bool.eq_iff_iff];simp [hs,hc]
 ·rw [if_neg (fun h=>hs (h2.1 h))]
  rw [Bool.eq_iff_iff];simp [hs,h1]
theorem cb_mark (A B:Byt):compareBytes A B=if mkOf A=mkOf B then compareBytes (A.drop 8) (B.drop 8) else compareBytes (mtx (mkOf A)) (mtx (mkOf B)):=by
 have hA:(mkOf A).s < 18446744073709551616∧(mkOf A).c < 256:=⟨by have:=be_bound (pad 8 A);rw [pad_len] at this;simpa [mkOf] using this,by simp [mkOf];omega⟩
 have hB:(mkOf B).s < 18446744073709551616∧(mkOf B).c < 256:=⟨by have:=be_bound (pad 8 B);rw [pad_len] at this;simpa [mkOf] using this,by simp [mkOf];omega⟩
 rw [cb_txt 8 0 A B (by omega),← mtx_of,← mtx_of]
 by_cases h:mkOf A=mkOf B
 ·rw [if_pos h,if_pos ((cb_eq _ _).2 (by rw [h]))]
 ·rw [if_neg h,if_neg fun hh=>h (mk_inj hA hB ((cb_eq _ _).1 hh))]
open Go.Lib
structure Sl where
 m:Mk
 rest:Str
 val:Str
 deep:Bool
 link:Hd
abbrev mT (m:Mk):Str:=bs (mtx m)
structure SlOK (s:Sl):Prop where
 m:MkOK s.m
 dp:s.deep=true→s.m.c=9∧s.rest=s0∧s.val=s0
 pl:s.deep=false→s.link=(0,0)∧(s.m.c=9↔s.rest≠s0)
def sb (s:Sl):Byt:=(ube 8 s.m.s).take (min s.m.c 8)++bl s.rest
structure Ly where
 pre:Byt
 Ls:List (Lev Sl)
 r:Hd
structure MOK (F:List Ly):Prop where
 tow:∀ l,l∈F→Tower l.Ls
 key:∀ l,l∈F→∀ x,x∈content l.Ls→x.1=mT x.2.m∧SlOK x.2
 pre:(F.map (·.pre)).Nodup
 root:∃ l F',F=l::F'∧l.pre=[]
 down:∀ l,l∈F→∀ x,x∈content l.Ls→x.2.deep=true→∃ l',l'∈F∧l'.pre=l.pre++ube 8 x.2.m.s∧l'.r=x.2.link
 up:∀ l,l∈F→l.pre≠[]→∃ l',l'∈F∧∃ x,x∈content l'.Ls∧x.2.deep=true∧l.pre=l'.pre++ube 8 x.2.m.s
 cls:∀ l,l∈F→l.pre≠[]→∀ x,x∈content l.Ls→x.2.m.c≠0
structure MCt (F:List Ly) (C:Cont Str):Prop where
 srt:CSort C
 mem:∀ k v,(k,v)∈C↔∃ l,l∈F∧∃ x,x∈content l.Ls∧x.2.deep=false∧bl k=l.pre++sb x.2∧v=x.2.val
abbrev keyAt (k:Str) (i:Nat):Byt:=(bl k).drop (8*i)
abbrev mkAt (k:Str) (i:Nat):Mk:=mkOf (keyAt k i)
theorem mkOf_b (A:Byt):(mkOf A).s < 18446744073709551616∧(mkOf A).c < 256:=⟨by have:=be_bound (pad 8 A);rw [pad_len] at this;simpa [mkOf] using this,by simp [mkOf];omega⟩
theorem MkOK.b {m:Mk} (h:MkOK m):m.s < 18446744073709551616∧m.c < 256:=⟨h.s,by have:=h.c;omega⟩
theorem mT_inj {a b:Mk} (ha:a.s < 18446744073709551616∧a.c < 256) (hb:b.s < 18446744073709551616∧b.c < 256) (h:mT a=mT b):a=b:=by
 refine mk_inj ha hb ?_
 have:=congrArg bl h
 rwa [bl_bs,bl_bs] at this
theorem be_zeros:∀ k,be (pad k [])=0
 | 0=>rfl
 | k+1=>by
  show be (0::pad k [])=0
  rw [be_cons,be_zeros k];simp
theorem pad_short:∀ (k:Nat) (A:Byt),A.length≤k→pad k A=A++pad (k - A.length) []
 | 0,A,h=>by
  have:A=[]:=List.eq_nil_of_length_eq_zero (by omega);subst this;rfl
 | k+1,[],_=>rfl
 | k+1,a::A,h=>by
  have:=pad_short k A (by simpa using h);simp only [pad,List.length_cons,List.cons_append,this];rw [show k+1 - (A.length+1)=k - A.length by omega]
theorem be_app (L M:Byt):be (L++M)=be L*256 ^ M.length+be M:=by
 unfold be
 rw [List.foldl_append,be_from]
 rfl
theorem pad_ube {s c:Nat} (hs:s < 18446744073709551616) (hc:c≤8) (hz:c < 8→s % 256 ^ (8 - c)=0):pad 8 ((ube 8 s).take c)=ube 8 s:=by
 have hl:((ube 8 s).take c).length=c:=by rw [List.length_take,ube_len];omega
 rw [pad_short 8 _ (by omega),hl]
 have e:=List.take_append_drop c (ube 8 s)
 refine Eq.trans ?_ e
 congr 1
 refine be_inj (by rw [pad_len,List.length_drop,ube_len]) ?_
 rw [be_zeros]
 have h1:=be_app ((ube 8 s).take c) ((ube 8 s).drop c)
 rw [e,ube_be_le (by simpa using hs)] at h1
 have h2:=be_bound ((ube 8 s).drop c)
 rw [List.length_drop,ube_len] at h1 h2
 rcases Nat.lt_or_ge c 8 with h8 | h8
 ·have h3:=hz h8
  rw [h1,Nat.mul_comm,Nat.mul_add_mod,Nat.mod_eq_of_lt h2] at h3;exact h3.symm
 ·obtain rfl:c=8:=by omega
  simp at h2;exact h2.symm
theorem mk_sb {s:Sl} (h:SlOK s) (hd:s.deep=false):mkOf (sb s)=s.m:=by
 obtain ⟨_,h2⟩:=h.pl hd
 have hb:=h.m.b
 have hc:=h.m.c
 by_cases h9:s.m.c=9
 ·have hr:=h2.1 h9
  have hl:0 < (bl s.rest).length:=by
   rcases Nat.eq_zero_or_pos (bl s.rest).length with h0 | h0
   ·exact absurd (bl_inj (a:=s.rest) (b:=s0) (List.eq_nil_of_length_eq_zero h0)) hr
   ·exact h0
  have e:sb s=ube 8 s.m.s++bl s.rest:=by
   unfold sb;rw [h9,List.take_of_length_le (by rw [ube_len];decide)]
  have hp:pad 8 (sb s)=ube 8 s.m.s:=by
   rw [pad_take 8 _ (by rw [e,List.length_append,ube_len];omega),e,List.take_append_of_le_length (by rw [ube_len];exact Nat.le_refl _),List.take_of_length_le (by rw [ube_len];exact Nat.le_refl _)]
  unfold mkOf;rw [hp,ube_be_le (by simpa using hb.1),e,List.length_append,ube_len,show min (8+(bl s.rest).length) 9=s.m.c by omega]
 ·have hr:s.rest=s0:=Classical.byContradiction fun hr=>h9 (h2.2 hr)
  have e:sb s=(ube 8 s.m.s).take s.m.c:=by
   unfold sb;rw [hr,show min s.m.c 8=s.m.c by omega];exact List.append_nil _
  have hp:pad 8 (sb s)=ube 8 s.m.s:=by rw [e];exact pad_ube hb.1 (by omega) h.m.z
  have hl:(sb s).length=s.m.c:=by rw [e,List.length_take,ube_len];omega
  unfold mkOf;rw [hp,ube_be_le (by simpa using hb.1),hl,show min s.m.c 9=s.m.c by omega]
theorem mkOf_ok (A:Byt):MkOK (mkOf A):=by
 refine ⟨(mkOf_b A).1,by unfold mkOf;simp;omega,fun h=>?_⟩
 have hA:A.length < 8:=by unfold mkOf at h;simp at h;omega
 have hc:(mkOf A).c=A.length:=by unfold mkOf;simp;omega
 rw [hc]
 show be (pad 8 A) % _=0
 rw [pad_short 8 A (by omega),be_app,pad_len,be_zeros,Nat.add_zero]
 exact Nat.mul_mod_left _ _
theorem take_pre {k:Byt} {i j:Nat} (h:i≤j):(k.take j).take i=k.take i:=by rw [List.take_take,Nat.min_eq_left h]
section
variable {F:List Ly} {C:Cont Str} {k:Str} {i j:Nat} {l l':Ly} {s:Sl}
theorem MOK.uniq (h:MOK F) (h1:l∈F) (h2:l'∈F) (e:l.pre=l'.pre):l=l':=by
 obtain ⟨a,ha⟩:=List.mem_iff_getElem?.1 h1
 obtain ⟨b,hb⟩:=List.mem_iff_getElem?.1 h2
 have e1:(F.map (·.pre))[a]?=some l.pre:=by rw [List.getElem?_map,ha];rfl
 have e2:(F.map (·.pre))[b]?=some l.pre:=by rw [List.getElem?_map,hb,e];rfl
 have:=(List.getElem?_inj (List.getElem?_eq_some_iff.1 e1).1 h.pre).1 (e1.trans e2.symm)
 subst this
 rw [ha] at hb
 injection hb
theorem MOK.srt (h:MOK F) (hl:l∈F):CSort (content l.Ls):=by
 obtain ⟨S,hS⟩:∃ S,l.Ls[0]?=some S:=by
  have ht:=h.tow l hl;obtain ⟨x,hx⟩:=ht.top;have:=(List.getElem?_eq_some_iff.1 hx).1;exact ⟨_,List.getElem?_eq_getElem (by omega)⟩
 rw [content_of hS]
 exact cont_sort ((h.tow l hl).ok _ _ hS).seg
theorem MOK.cget (h:MOK F) (hl:l∈F) {x:Str}:M.cget (content l.Ls) x=some s↔(x,s)∈content l.Ls:=cget_iff (h.srt hl)
theorem MOK.slot (h:MOK F) (hl:l∈F) {m:Mk} (hm:m.s < 18446744073709551616∧m.c < 256) (hg:M.cget (content l.Ls) (mT m)=some s):s.m=m∧SlOK s:=by
 have:=(h.cget hl).1 hg
 obtain ⟨e,ho⟩:=h.key l hl _ this
 exact ⟨(mT_inj hm ho.m.b e).symm,ho⟩
theorem MOK.eights (h:MOK F):∀ (n:Nat) (l:Ly),l∈F→l.pre.length≤n→∃ j,l.pre.length=8*j
 | 0,l,_,hn=>⟨0,by omega⟩
 | n+1,l,hl,hn=>by
  by_cases h0:l.pre=[]
  ·exact ⟨0,by rw [h0];rfl⟩
  ·obtain ⟨l',h1,x,h2,h3,h4⟩:=h.up l hl h0
   have e:l.pre.length=l'.pre.length+8:=by rw [h4,List.length_append,ube_len]
   obtain ⟨j,hj⟩:=h.eights n l' h1 (by omega);exact ⟨j+1,by omega⟩
structure On (F:List Ly) (k:Str) (i:Nat) (l:Ly):Prop where
 mem:l∈F
 pre:l.pre=(bl k).take (8*i)
 lt:i=0∨8*i < (bl k).length
theorem On.uniq (h:MOK F) (a:On F k i l) (b:On F k i l'):l=l':=h.uniq a.mem b.mem (a.pre.trans b.pre.symm)
theorem on_root (h:MOK F) (k:Str):∃ l F',F=l::F'∧On F k 0 l:=by
 obtain ⟨l,F',e,hp⟩:=h.root
 exact ⟨l,F',e,by rw [e];simp,by rw [hp];rfl,.inl rfl⟩
theorem ube_mk (A:Byt) (h:8≤A.length):ube 8 (mkOf A).s=A.take 8:=by
 have:=ube_be (pad 8 A)
 rw [pad_len] at this
 rw [← pad_take 8 A h]
 exact this
theorem cls9 {A:Byt} (h:(mkOf A).c=9):9≤A.length:=by unfold mkOf at h;simp at h;omega
theorem On.step (h:MOK F) (ho:On F k i l) (hg:M.cget (content l.Ls) (mT (mkAt k i))=some s) (hd:s.deep=true):∃ l',On F k (i+1) l'∧l'.r=s.link:=by
 obtain ⟨e,hs⟩:=h.slot ho.mem (mkOf_b _) hg
 have h9:=(hs.dp hd).1
 rw [e] at h9
 have hl:=cls9 h9
 rw [List.length_drop] at hl
 obtain ⟨l',h1,h2,h3⟩:=h.down l ho.mem _ ((h.cget ho.mem).1 hg) hd
 refine ⟨l',⟨h1,?_,.inr (by omega)⟩,h3⟩
 rw [h2]
 show l.pre++ube 8 s.m.s=_
 rw [e,ube_mk _ (by rw [List.length_drop];omega),ho.pre,show 8*(i+1)=8*i+8 by omega,List.take_add]
theorem On.chain (h:MOK F):∀ {j:Nat} {l:Ly},On F k j l→∀ i,i < j→∃ l' s,On F k i l'∧M.cget (content l'.Ls) (mT (mkAt k i))=some s∧s.deep=true
 | 0,_,_,i,hi=>by omega
 | j+1,l,ho,i,hi=>by
  have hlt:8*(j+1) < (bl k).length:=ho.lt.resolve_left (by omega)
  have hne:l.pre≠[]:=fun h0=>by
   have:=congrArg List.length (ho.pre.symm.trans h0);rw [List.length_take,List.length_nil] at this;omega
  obtain ⟨l',h1,x,h2,h3,h4⟩:=h.up l ho.mem hne;have e:=ho.pre.symm.trans h4
  have hl':l'.pre.length=8*j:=by
   have:=congrArg List.length e;rw [List.length_append,ube_len,List.length_take] at this;omega
  rw [show 8*(j+1)=8*j+8 by omega,List.take_add] at e;obtain ⟨e1,e2⟩:=List.append_inj e (by rw [List.length_take,hl'];omega);have ho':On F k j l':=⟨h1,e1.symm,by omega⟩;rcases Nat.lt_or_ge i j with hij | hij
  ·exact On.chain h ho' i hij
  ·obtain rfl:i=j:=by omega
   obtain ⟨hk,hs⟩:=h.key l' h1 x h2
   have hm:mkAt k i=x.2.m:=by
    have hc:x.2.m.c=9:=(hs.dp h3).1
    have e3:be ((keyAt k i).take 8)=x.2.m.s:=by
     rw [show (keyAt k i).take 8=ube 8 x.2.m.s from e2,ube_be_le (by simpa using hs.m.s)]
    have hl8:8≤(keyAt k i).length:=by rw [List.length_drop];omega
    have e4:(mkAt k i).s=x.2.m.s:=by
     show be (pad 8 (keyAt k i))=_
     rw [pad_take 8 _ hl8,e3]
    have e5:(mkAt k i).c=x.2.m.c:=by
     rw [hc]
     show min (keyAt k i).length 9=9
     rw [List.length_drop];omega
    cases hmm:mkAt k i
    cases hxx:x.2.m;rw [hmm] at e4 e5;rw [hxx] at e4 e5;simp only at e4 e5;rw [e4,e5]
   exact ⟨l',x.2,ho',(h.cget h1).2 (by rw [hm,← hk];exact h2),h3⟩
theorem MCt.at (h:MOK F) (hc:MCt F C) {v:Str} (hm:(k,v)∈C):∃ i l s,On F k i l∧M.cget (content l.Ls) (mT (mkAt k i))=some s∧s.deep=false∧keyAt k i=sb s∧v=s.val:=by
 obtain ⟨l,h1,x,h2,h3,h4,h5⟩:=(hc.mem k v).1 hm
 obtain ⟨j,hj⟩:=h.eights _ l h1 (Nat.le_refl _)
 obtain ⟨hk,hs⟩:=h.key l h1 x h2
 have e1:l.pre=(bl k).take (8*j):=by rw [h4,List.take_append_of_le_length (by omega),List.take_of_length_le (by omega)]
 have e2:keyAt k j=sb x.2:=by
  show (bl k).drop (8*j)=_
  rw [h4,← hj,List.drop_left]
 have hlt:j=0∨8*j < (bl k).length:=by
  rcases Nat.eq_zero_or_pos j with h0 | h0
  ·exact .inl h0
  ·have hne:l.pre≠[]:=fun hh=>by rw [hh] at hj;simp at hj;omega
   have hc0:=h.cls l h1 hne x h2;right;refine Classical.byContradiction fun hh=>hc0 ?_
   have:sb x.2=[]:=by rw [← e2];exact List.drop_eq_nil_iff.2 (by omega)
   have h6:=mk_sb hs h3;rw [this] at h6;rw [← h6];rfl
 refine ⟨j,l,x.2,⟨h1,e1,hlt⟩,(h.cget h1).2 ?_,h3,e2,h5⟩
 rw [show mkAt k j=x.2.m from by show mkOf (keyAt k j)=_;rw [e2];exact mk_sb hs h3,← hk]
 exact h2
theorem MCt.none (h:MOK F) (hc:MCt F C) (ho:On F k i l) (hg:M.cget (content l.Ls) (mT (mkAt k i))=none):M.cget C k=none:=by
 rw [cget_none_iff hc.srt]
 intro v hm
 obtain ⟨j,l2,s,h1,h2,h3,_⟩:=hc.at h hm
 rcases Nat.lt_trichotomy j i with hij | rfl | hij
 ·obtain ⟨l3,s3,q1,q2,q3⟩:=ho.chain h j hij
  rw [q1.uniq h h1,h2] at q2;injection q2 with q2;rw [q2,q3] at h3
  cases h3
 ·rw [ho.uniq h h1,h2] at hg
  cases hg
 ·obtain ⟨l3,s3,q1,q2,_⟩:=h1.chain h i hij
  rw [← ho.uniq h q1,hg] at q2
  cases q2
theorem part_rest (_hs:SlOK s) (_hd:s.deep=false) (hm:s.m=mkAt k i):keyAt k i=sb s↔bl s.rest=keyAt k (i+1):=by
 have e:(keyAt k i).take 8=(ube 8 s.m.s).take (min s.m.c 8):=by
  rw [hm]
  show _=(ube 8 (be (pad 8 (keyAt k i)))).take (min (min (keyAt k i).length 9) 8)
  have:=ube_be (pad 8 (keyAt k i));rw [pad_len] at this;rw [this];rcases Nat.lt_or_ge (keyAt k i).length 8 with h | h
  ·rw [pad_short 8 _ (by omega),show min (min (keyAt k i).length 9) 8=(keyAt k i).length by omega,List.take_append_of_le_length (Nat.le_refl _),List.take_of_length_le (by omega),List.take_of_length_le (Nat.le_refl _)]
  ·rw [pad_take 8 _ h,show min (min (keyAt k i).length 9) 8=8 by omega,List.take_take]
   rfl
 have e2:keyAt k (i+1)=(keyAt k i).drop 8:=by
  show (bl k).drop (8*(i+1))=((bl k).drop (8*i)).drop 8
  rw [List.drop_drop];rfl
 unfold sb
 rw [← e,e2]
 refine ⟨fun h=>?_,fun h=>?_⟩
 ·have h1:(keyAt k i).take 8++(keyAt k i).drop 8=(keyAt k i).take 8++bl s.rest:=(List.take_append_drop 8 _).trans h
  exact (List.append_cancel_left h1).symm
 ·rw [h,List.take_append_drop]
theorem MCt.plain (h:MOK F) (hc:MCt F C) (ho:On F k i l) (hg:M.cget (content l.Ls) (mT (mkAt k i))=some s) (hd:s.deep=false):M.cget C k=if bl s.rest=keyAt k (i+1) then some s.val else Option.none:=by
 obtain ⟨e,hs⟩:=h.slot ho.mem (mkOf_b _) hg
 split
 ·rename_i hr
  rw [cget_iff hc.srt];refine (hc.mem k s.val).2 ⟨l,ho.mem,(_,s),(h.cget ho.mem).1 hg,hd,?_,rfl⟩;rw [← (part_rest hs hd e).2 hr,ho.pre];exact (List.take_append_drop _ _).symm
 ·rename_i hr
  rw [cget_none_iff hc.srt];intro v hm;obtain ⟨j,l2,s2,h1,h2,h3,h4,_⟩:=hc.at h hm;rcases Nat.lt_trichotomy j i with hij | rfl | hij
  ·obtain ⟨l3,s3,q1,q2,q3⟩:=ho.chain h j hij
   rw [q1.uniq h h1,h2] at q2;injection q2 with q2;rw [q2,q3] at h3
   cases h3
  ·rw [ho.uniq h h1,h2] at hg
   injection hg with hg;subst hg;exact hr ((part_rest hs hd e).1 h4)
  ·obtain ⟨l3,s3,q1,q2,q3⟩:=h1.chain h i hij
   rw [← ho.uniq h q1,hg] at q2;injection q2 with q2;rw [q2,q3] at hd
   cases hd
end
end Go.Proofs.YtbdealmkmpnpoaaGreat.M
