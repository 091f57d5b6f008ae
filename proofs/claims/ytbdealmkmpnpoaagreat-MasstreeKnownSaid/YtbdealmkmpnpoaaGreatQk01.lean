import Derived.Lib.Hide
import Derived.Deep.RegionHeld3
import Derived.NoCompiler
import Derived.WalkKit
import Derived.Lib.Bytealg
import Derived.Lib.QuietBelow
import Derived.Test.YtbdealmkmpnpoaaGreatChecked
import Derived.WalkLawsBesides
import Derived.WalkSpells
import Derived.Outline
import Derived.BigQuiet
import Derived.WalkSmall
import Derived.LoopTactic
import Derived.Maps.AppendAt
import Derived.Deep.RegionLaw
import Derived.Laws.Strings
import Derived.StillTailTactics
import Derived.IntWalk
import Derived.Lib.SliceRun
import Derived.RegionTactic
import Derived.Laws.CopyRow
import Derived.Lib.AppendZerosOnto
import Derived.Lib.Overlaps
import Derived.Laws.Externs
import Derived.Laws.NewBlocks
set_option linter.all false
namespace Go.Proofs.YtbdealmkmpnpoaaGreat
open Go
theorem qh {p : Prop} (h : p) : RowKit.Hid p := Lib.hid h
theorem zs1 {α : Type} {l : List α} {i : Nat} {a : α} : l.toArray.setIfInBounds i a = (l.set i a).toArray := List.setIfInBounds_toArray ..
theorem zs2 {α : Type} {a b : α} {l : List α} : (a :: l).set 0 b = b :: l := List.set_cons_zero ..
theorem zs3 {α : Type} {a b : α} {l : List α} {n : Nat} : (a :: l).set (n + 1) b = a :: l.set n b := List.set_cons_succ ..
theorem zg1 {α : Type} {l : List α} {i : Nat} : l.toArray[i]? = l[i]? := List.getElem?_toArray ..
theorem zg2 {α : Type} {a : α} {l : List α} : (a :: l)[0]? = some a := List.getElem?_cons_zero ..
theorem zg3 {α : Type} {a : α} {l : List α} {i : Nat} : (a :: l)[i + 1]? = l[i]? := List.getElem?_cons_succ ..
open Go
variable {P:Program} {ops:Array Oper} {Q:Exit→Act→World→Prop} {md:Region.Mode} {S:World→Prop}
theorem takeL (i : Nat) {oi : Oper} {fuel : Nat} {listed : Array Bool} {a : Act} {w : World} (hi : ops[i]? = some oi) (hSw : S w)
    (h:Region.noSelect ops=true∧Region.free md ops listed i=true∧(Region.ready md ops listed).contains i=true∧∃ v,(∀ c a w,Q (.panic c) (a.put oi.dst v) w→Q (.panic c) a w)∧YieldsIf P ops S oi v a∧wpAnyH P md ops Q S fuel (listed.setIfInBounds i true) (a.put oi.dst v) w) :
    wpAnyH P md ops Q S (fuel+1) listed a w:=by
 obtain ⟨h1,h2,h3,v,h4,h5,h6⟩:=h
 exact wpAnyH_take hi h1 h2 h3 h4 h5 hSw h6
theorem readyL (i : Nat) {o : Oper} {fuel : Nat} {listed : Array Bool} {a : Act} {w : World} (hr : Region.ready md ops listed = [i]) (ho : ops[i]? = some o)
    (h:∀ K':Act→World→Prop,Shut (∀ a w,S w→(S w→wpAnyH P md ops Q S fuel (listed.setIfInBounds i true) a w)→K' a w)→if Region.wanted o (yielded ops a.tmps)=true then Oper.wp P o a w K' Q else K' (a.put o.dst undef) w):wpAnyH P md ops Q S (fuel+1) listed a w :=
 wpAnyH_ready hr (by simp) (AllReadyH.cons ho h AllReadyH.nil)
open Go
section
variable {P:Program} {ops:Array Oper} {Q:Exit→Act→World→Prop} {md:Region.Mode} {S:World→Prop} {N:List Nat}
def wpAnyM (P:Program) (md:Region.Mode) (ops:Array Oper) (Q:Exit→Act→World→Prop) (S:World→Prop) (N:List Nat):Nat→Array Bool→Act→World→Prop
 | 0,listed,a,w=>Region.ready md ops listed=[]∧Q .normal a w
 | fuel+1,listed,a,w =>
  (Region.ready md ops listed=[]→Q .normal a w) ∧
  ∀ i∈Region.ready md ops listed,wpOp P ops Q i (fun a' w'=>(N.contains i=false→S w→S w')∧wpAnyM P md ops Q S N fuel (listed.setIfInBounds i true) a' w') a w
theorem wpAny_of_late:∀ (fuel:Nat) (listed:Array Bool) (a:Act) (w:World),wpAnyM P md ops Q S N fuel listed a w→wpAny P md ops Q fuel listed a w
 | 0,_,_,_,h=>h
 | fuel+1,_,_,_,h=>⟨h.1,fun i hi=>wpOp_mono (fun a' w' h'=>wpAny_of_late fuel _ a' w' h'.2) (h.2 i hi)⟩
def ClosedL (md:Region.Mode) (ops:Array Oper) (listed:Array Bool):Prop:=∀ j o,ops[j]?=some o→listed.getD j false=true→∀ e∈o.after,Region.binds md e=true→listed.getD e.on false=true
theorem ClosedL.add {listed:Array Bool} {j:Nat} (h:ClosedL md ops listed) (hj:j∈Region.ready md ops listed):ClosedL md ops (listed.setIfInBounds j true):=fun k o ho hk e he hb=>by
 by_cases e1:j=k
 ·subst e1
  obtain ⟨_,o',ho',hall⟩:=mem_ready.1 hj;rw [ho] at ho';injection ho' with ho';rw [← ho'] at hall;exact getD_set_true (hall e he hb)
 ·rw [getD_set_ne false e1] at hk
  exact getD_set_true (h k o ho hk e he hb)
def waitsFor (md:Region.Mode) (ops:Array Oper) (i:Nat):Nat→Nat→Bool
 | 0,_=>false
 | f+1,j=>match ops[j]? with
  | some o=>o.after.any fun e=>Region.binds md e && (e.on == i || waitsFor md ops i f e.on)
  | none=>false
theorem waitsFor_listed {listed:Array Bool} {i:Nat} (hc:ClosedL md ops listed):∀ (f j:Nat) (o:Oper),ops[j]?=some o→(∀ e∈o.after,Region.binds md e=true→listed.getD e.on false=true)→waitsFor md ops i f j=true→listed.getD i false=true
 | 0,_,_,_,_,h=>by cases h
 | f+1,j,o,ho,hall,h=>by
  unfold waitsFor at h;rw [ho] at h;obtain ⟨e,he,h1⟩:=Array.any_eq_true'.1 h;rw [Bool.and_eq_true,Bool.or_eq_true] at h1;have hl:=hall e he h1.1;rcases h1.2 with h2 | h2
  ·rw [← (beq_iff_eq.1 h2)];exact hl
  ·cases ho2:ops[e.on]? with
   | none =>
    cases f with
    | zero=>cases h2
    | succ f=>unfold waitsFor at h2;rw [ho2] at h2;cases h2
   | some o2=>exact waitsFor_listed hc f e.on o2 ho2 (hc e.on o2 ho2 hl) h2
def closedB (md:Region.Mode) (ops:Array Oper) (listed:Array Bool):Bool:=(List.range ops.size).all fun j => !(listed.getD j false) || match ops[j]? with
 | some o=>o.after.all fun e => !(Region.binds md e) || listed.getD e.on false
 | none=>true
theorem closedB_spec {listed:Array Bool} (h:closedB md ops listed=true):ClosedL md ops listed:=fun j o ho hj e he hb=>by
 have h1:=List.all_eq_true.1 h j (List.mem_range.2 (Array.getElem?_eq_some_iff.1 ho).1)
 rw [hj,ho] at h1
 simp only [Bool.not_true,Bool.false_or] at h1
 have h2:=Array.all_eq_true'.1 h1 e he
 rw [hb] at h2
 simpa using h2
def lateB (md:Region.Mode) (ops:Array Oper) (N:List Nat) (i:Nat):Bool:=(List.range ops.size).all fun j => !N.contains j || waitsFor md ops i ops.size j
theorem wpAnyM_first {i : Nat} {oi : Oper} {v : Value} (hi : ops[i]? = some oi) (hsel : ∀ (j : Nat) (o : Oper) cs b, ops[j]? = some o → o.op ≠ .select cs b)
    (hQ:∀ c a w,Q (.panic c) (a.put oi.dst v) w→Q (.panic c) a w) (hlate:lateB md ops N i=true) :
    ∀ (fuel:Nat) (listed:Array Bool) (a:Act) (w:World),
     (∀ j oj,ops[j]?=some oj→j≠i→listed.getD j true=false→(∀ e∈oj.after,Region.binds md e=true→e.on≠i)→oi.apart ops oj=true) →
     i∈Region.ready md ops listed→ClosedL md ops listed→YieldsIf P ops S oi v a→S w →
     wpAnyM P md ops Q S N fuel (listed.setIfInBounds i true) (a.put oi.dst v) w→wpAnyM P md ops Q S N (fuel+1) listed a w:=by
 intro fuel
 induction fuel with
 | zero =>
  intro listed a w _ hr _ hy hS H;refine ⟨fun h=>(by rw [h] at hr;cases hr),fun j hj=>?_⟩;by_cases hji:j=i
  ·subst hji;exact hy.wpOp hi hS ⟨fun _ _=>hS,H⟩
  ·have:=ready_mono hj hji
   rw [H.1] at this
   cases this
 | succ fuel ih =>
  intro listed a w hfree hr hcl hy hS H;refine ⟨fun h=>(by rw [h] at hr;cases hr),fun j hj=>?_⟩;by_cases hji:j=i
  ·subst hji;exact hy.wpOp hi hS ⟨fun _ _=>hS,H⟩
  ·have h1:=H.2 j (ready_mono hj hji)
   obtain ⟨hjun,oj,hoj,hall⟩:=mem_ready.1 hj;have hin:listed.getD i true=false:=(mem_ready.1 hr).1
   have hif:listed.getD i false=false:=by
    rcases Nat.lt_or_ge i listed.size with h' | h'
    ·simp [h'] at hin ⊢;exact hin
    ·simp [Array.getElem?_eq_none h'] at hin
   have hjN:N.contains j=false:=by
    have h2:=List.all_eq_true.1 hlate j (List.mem_range.2 (Array.getElem?_eq_some_iff.1 hoj).1);rw [Bool.or_eq_true,Bool.not_eq_true'] at h2;rcases h2 with h2 | h2
    ·exact h2
    ·have:=waitsFor_listed hcl _ j oj hoj hall h2
     rw [hif] at this
     cases this
   have hnot:∀ e∈oj.after,Region.binds md e=true→e.on≠i:=fun e he hb heq=>by
    have h1:=hall e he hb;rw [heq,hif] at h1
    cases h1
   have h2:=wpOp_putIf hoj (hfree j oj hoj hji hjun hnot) (fun cs b=>hsel i oi cs b hi) (fun cs b=>hsel j oj cs b hoj) hQ hy h1
   have hfree' : ∀ k ok, ops[k]? = some ok → k ≠ i → (listed.setIfInBounds j true).getD k true = false →
       (∀ e∈ok.after,Region.binds md e=true→e.on≠i)→oi.apart ops ok=true:=fun k ok hk hki hun hno=>by
    refine hfree k ok hk hki ?_ hno;by_cases hjk:j=k
    ·subst hjk;exact hjun
    ·rw [getD_set_ne true hjk] at hun;exact hun
   refine wpOp_mono (fun a' w' h3=>⟨h3.2.1,ih (listed.setIfInBounds j true) a' w' hfree' (ready_mono hr (Ne.symm hji)) (hcl.add hj) h3.1 (h3.2.1 hjN hS) ?_⟩) h2;rw [Array.setIfInBounds_comm _ _ hji];exact h3.2.2
theorem wpAnyM_firstW {i : Nat} {oi : Oper} {v : Value} (hi : ops[i]? = some oi) (hsel : ∀ (j : Nat) (o : Oper) cs b, ops[j]? = some o → o.op ≠ .select cs b)
    (hQ:∀ c a w,Q (.panic c) (a.put oi.dst v) w→Q (.panic c) a w) :
    ∀ (fuel:Nat) (listed:Array Bool) (a:Act) (w:World),
     (∀ j oj,ops[j]?=some oj→j≠i→listed.getD j true=false→(∀ e∈oj.after,Region.binds md e=true→e.on≠i)→oi.apart ops oj=true) →
     i∈Region.ready md ops listed→YieldsIf P ops (fun _=>True) oi v a →
     wpAnyM P md ops Q S N fuel (listed.setIfInBounds i true) (a.put oi.dst v) w→wpAnyM P md ops Q S N (fuel+1) listed a w:=by
 intro fuel
 induction fuel with
 | zero =>
  intro listed a w _ hr hy H;refine ⟨fun h=>(by rw [h] at hr;cases hr),fun j hj=>?_⟩;by_cases hji:j=i
  ·subst hji;exact hy.wpOp hi trivial ⟨fun _ hS=>hS,H⟩
  ·have:=ready_mono hj hji
   rw [H.1] at this
   cases this
 | succ fuel ih =>
  intro listed a w hfree hr hy H;refine ⟨fun h=>(by rw [h] at hr;cases hr),fun j hj=>?_⟩;by_cases hji:j=i
  ·subst hji;exact hy.wpOp hi trivial ⟨fun _ hS=>hS,H⟩
  ·have h1:=H.2 j (ready_mono hj hji)
   obtain ⟨hjun,oj,hoj,hall⟩:=mem_ready.1 hj;have hin:listed.getD i true=false:=(mem_ready.1 hr).1
   have hif:listed.getD i false=false:=by
    rcases Nat.lt_or_ge i listed.size with h' | h'
    ·simp [h'] at hin ⊢;exact hin
    ·simp [Array.getElem?_eq_none h'] at hin
   have hnot:∀ e∈oj.after,Region.binds md e=true→e.on≠i:=fun e he hb heq=>by
    have h1:=hall e he hb;rw [heq,hif] at h1
    cases h1
   have h2:=wpOp_putIf hoj (hfree j oj hoj hji hjun hnot) (fun cs b=>hsel i oi cs b hi) (fun cs b=>hsel j oj cs b hoj) hQ hy h1
   have hfree' : ∀ k ok, ops[k]? = some ok → k ≠ i → (listed.setIfInBounds j true).getD k true = false →
       (∀ e∈ok.after,Region.binds md e=true→e.on≠i)→oi.apart ops ok=true:=fun k ok hk hki hun hno=>by
    refine hfree k ok hk hki ?_ hno;by_cases hjk:j=k
    ·subst hjk;exact hjun
    ·rw [getD_set_ne true hjk] at hun;exact hun
   refine wpOp_mono (fun a' w' h3=>⟨h3.2.1,ih (listed.setIfInBounds j true) a' w' hfree' (ready_mono hr (Ne.symm hji)) h3.1 ?_⟩) h2;rw [Array.setIfInBounds_comm _ _ hji];exact h3.2.2
theorem takeW (i : Nat) {oi : Oper} {fuel : Nat} {listed : Array Bool} {a : Act} {w : World} (hi : ops[i]? = some oi)
    (h:Region.noSelect ops=true∧Region.free md ops listed i=true∧(Region.ready md ops listed).contains i=true ∧
     ∃ v,(∀ c a w,Q (.panic c) (a.put oi.dst v) w→Q (.panic c) a w)∧YieldsIf P ops (fun _=>True) oi v a∧wpAnyM P md ops Q S N fuel (listed.setIfInBounds i true) (a.put oi.dst v) w) :
    wpAnyM P md ops Q S N (fuel+1) listed a w:=by
 obtain ⟨h1,h2,h3,v,h6,h7,h8⟩:=h
 exact wpAnyM_firstW hi (Region.noSelect_spec h1) h6 fuel listed a w (Region.free_spec hi h2) (by simpa using h3) h7 h8
theorem wpAnyM_done {listed : Array Bool} {a : Act} {w : World} (hr : Region.ready md ops listed = []) (h : Q .normal a w) :
    ∀ fuel,wpAnyM P md ops Q S N fuel listed a w
 | 0=>⟨hr,h⟩
 | _+1=>⟨fun _=>h,by rw [hr];simp⟩
theorem wp_region_late (N : List Nat) {id : Nat} {a : Act} {w : World} (hm : P.follows .mixedOrders = true) (hS : S w.drew)
    (h:S w.drew→wpAnyM P .any ops Q S N ops.size (Array.replicate ops.size false) a w.drew):(Code.region id ops true).wp P Q a w :=
 wp_region_any hm (wpAny_of_late _ _ _ _ (h hS))
theorem takeM (i : Nat) {oi : Oper} {fuel : Nat} {listed : Array Bool} {a : Act} {w : World} (hi : ops[i]? = some oi) (hSw : S w)
    (h:Region.noSelect ops=true∧Region.free md ops listed i=true∧(Region.ready md ops listed).contains i=true∧closedB md ops listed=true∧lateB md ops N i=true ∧
     ∃ v,(∀ c a w,Q (.panic c) (a.put oi.dst v) w→Q (.panic c) a w)∧YieldsIf P ops S oi v a∧wpAnyM P md ops Q S N fuel (listed.setIfInBounds i true) (a.put oi.dst v) w) :
    wpAnyM P md ops Q S N (fuel+1) listed a w:=by
 obtain ⟨h1,h2,h3,h4,h5,v,h6,h7,h8⟩:=h
 exact wpAnyM_first hi (Region.noSelect_spec h1) h6 h5 fuel listed a w (Region.free_spec hi h2) (by simpa using h3) (closedB_spec h4) h7 hSw h8
def AllReadyM (P:Program) (md:Region.Mode) (ops:Array Oper) (Q:Exit→Act→World→Prop) (S:World→Prop) (N:List Nat) (fuel:Nat) (listed:Array Bool) (a:Act) (w:World) (rs:List Nat):Prop :=
 ∀ i∈rs,wpOp P ops Q i (fun a' w'=>(N.contains i=false→S w→S w')∧wpAnyM P md ops Q S N fuel (listed.setIfInBounds i true) a' w') a w
theorem AllReadyM.nil {fuel:Nat} {listed:Array Bool} {a:Act} {w:World}:AllReadyM P md ops Q S N fuel listed a w []:=fun _ h=>by cases h
theorem AllReadyM.cons {fuel : Nat} {listed : Array Bool} {a : Act} {w : World} {i : Nat} {o : Oper} {rs : List Nat} (ho : ops[i]? = some o)
    (h:∀ K':Act→World→Prop,Shut (∀ a w',(N.contains i=false→S w→S w')→wpAnyM P md ops Q S N fuel (listed.setIfInBounds i true) a w'→K' a w')→if Region.wanted o (yielded ops a.tmps)=true then Oper.wp P o a w K' Q else K' (a.put o.dst undef) w)
    (hs:AllReadyM P md ops Q S N fuel listed a w rs):AllReadyM P md ops Q S N fuel listed a w (i::rs):=fun j hj=>by
 rcases List.mem_cons.1 hj with rfl | hj
 ·exact wpOp_step ho (fun K' hK=>h K' (fun a w hS hW=>hK a w ⟨hS,hW⟩))
 ·exact hs j hj
theorem wpAnyM_ready {rs : List Nat} {fuel : Nat} {listed : Array Bool} {a : Act} {w : World} (hr : Region.ready md ops listed = rs) (hne : rs ≠ [])
    (h:AllReadyM P md ops Q S N fuel listed a w rs):wpAnyM P md ops Q S N (fuel+1) listed a w :=
 ⟨fun h0=>absurd (hr ▸ h0) hne,hr ▸ h⟩
theorem readyM (i : Nat) {o : Oper} {fuel : Nat} {listed : Array Bool} {a : Act} {w : World} (hr : Region.ready md ops listed = [i]) (ho : ops[i]? = some o)
    (h:∀ K':Act→World→Prop,Shut (∀ a w',(N.contains i=false→S w→S w')→wpAnyM P md ops Q S N fuel (listed.setIfInBounds i true) a w'→K' a w')→if Region.wanted o (yielded ops a.tmps)=true then Oper.wp P o a w K' Q else K' (a.put o.dst undef) w):wpAnyM P md ops Q S N (fuel+1) listed a w :=
 wpAnyM_ready hr (by simp) (AllReadyM.cons ho h AllReadyM.nil)
end
open Go
variable {P:Program} {ops:Array Oper} {Q:Exit→Act→World→Prop} {md:Region.Mode} {S:World→Prop} {N:List Nat}
theorem tkL (i : Nat) {oi : Oper} {fuel : Nat} {listed l' : Array Bool} {a a' : Act} {w : World} {v : Value} (h : wpAnyH P md ops Q S fuel l' a' w) (hSw : S w := by exact hHeld)
    (h0:ops[i]?=some oi:=by simp only [zg1,zg3,zg2];rfl)
    (h1:Region.noSelect ops=true:=by kernel_rfl) (h2:Region.free md ops listed i=true:=by kernel_rfl) (h3:(Region.ready md ops listed).contains i=true:=by kernel_rfl)
    (hw:Region.wanted oi (yielded ops a.tmps)=true:=by rfl) (hz:∀ w,S w→(execOp a.eval oi).run P w=.ok (.value v) w:=by intro w hSw;clear hSw;go_simp;first | done | with_reducible rfl)
    (hq:∀ c a w,Q (.panic c) (a.put oi.dst v) w→Q (.panic c) a w:=by exact fun _ _ _ h=>h)
    (hl:listed.setIfInBounds i true=l':=by (try simp only [zs1,zs2,zs3]) <;> exact rfl)
    (ha:a.put oi.dst v=a':=by (try simp only [Act.put,zs1,zs2,zs3]) <;> exact rfl):wpAnyH P md ops Q S (fuel+1) listed a w:=by
 subst hl ha
 exact takeL i h0 hSw ⟨h1,h2,h3,v,hq,.inl ⟨hw,hz⟩,h⟩
theorem nkL (i : Nat) {oi : Oper} {fuel : Nat} {listed l' : Array Bool} {a a' : Act} {w : World} (h : wpAnyH P md ops Q S fuel l' a' w) (hSw : S w := by exact hHeld)
    (h0:ops[i]?=some oi:=by simp only [zg1,zg3,zg2];rfl)
    (h1:Region.noSelect ops=true:=by kernel_rfl) (h2:Region.free md ops listed i=true:=by kernel_rfl) (h3:(Region.ready md ops listed).contains i=true:=by kernel_rfl)
    (hw:Region.wanted oi (yielded ops a.tmps)=false:=by rfl)
    (hq:∀ c a w,Q (.panic c) (a.put oi.dst undef) w→Q (.panic c) a w:=by exact fun _ _ _ h=>h)
    (hl:listed.setIfInBounds i true=l':=by (try simp only [zs1,zs2,zs3]) <;> exact rfl)
    (ha:a.put oi.dst undef=a':=by (try simp only [Act.put,zs1,zs2,zs3]) <;> exact rfl):wpAnyH P md ops Q S (fuel+1) listed a w:=by
 subst hl ha
 exact takeL i h0 hSw ⟨h1,h2,h3,undef,hq,.inr ⟨hw,rfl⟩,h⟩
theorem ykL (i : Nat) {oi : Oper} {fuel : Nat} {listed l' : Array Bool} {a a' : Act} {w : World} {v : Value} (h : wpAnyH P md ops Q S fuel l' a' w) (hSw : S w := by exact hHeld)
    (h0:ops[i]?=some oi:=by simp only [zg1,zg3,zg2];rfl)
    (h1:Region.noSelect ops=true:=by kernel_rfl) (h2:Region.free md ops listed i=true:=by kernel_rfl) (h3:(Region.ready md ops listed).contains i=true:=by kernel_rfl)
    (hy:YieldsIf P ops S oi v a)
    (hq:∀ c a w,Q (.panic c) (a.put oi.dst v) w→Q (.panic c) a w:=by exact fun _ _ _ h=>h)
    (hl:listed.setIfInBounds i true=l':=by (try simp only [zs1,zs2,zs3]) <;> exact rfl)
    (ha:a.put oi.dst v=a':=by (try simp only [Act.put,zs1,zs2,zs3]) <;> exact rfl):wpAnyH P md ops Q S (fuel+1) listed a w:=by
 subst hl ha
 exact takeL i h0 hSw ⟨h1,h2,h3,v,hq,hy,h⟩
theorem tkW (i : Nat) {oi : Oper} {fuel : Nat} {listed l' : Array Bool} {a a' : Act} {w : World} {v : Value} (h : wpAnyM P md ops Q S N fuel l' a' w)
    (h0:ops[i]?=some oi:=by simp only [zg1,zg3,zg2];rfl)
    (h1:Region.noSelect ops=true:=by kernel_rfl) (h2:Region.free md ops listed i=true:=by kernel_rfl) (h3:(Region.ready md ops listed).contains i=true:=by kernel_rfl)
    (hw:Region.wanted oi (yielded ops a.tmps)=true:=by rfl) (hz:∀ w,(execOp a.eval oi).run P w=.ok (.value v) w:=by intro w;go_simp;first | done | with_reducible rfl)
    (hq:∀ c a w,Q (.panic c) (a.put oi.dst v) w→Q (.panic c) a w:=by exact fun _ _ _ h=>h)
    (hl:listed.setIfInBounds i true=l':=by (try simp only [zs1,zs2,zs3]) <;> exact rfl)
    (ha:a.put oi.dst v=a':=by (try simp only [Act.put,zs1,zs2,zs3]) <;> exact rfl):wpAnyM P md ops Q S N (fuel+1) listed a w:=by
 subst hl ha
 exact takeW i h0 ⟨h1,h2,h3,v,hq,.inl ⟨hw,fun w _=>hz w⟩,h⟩
theorem nkW (i : Nat) {oi : Oper} {fuel : Nat} {listed l' : Array Bool} {a a' : Act} {w : World} (h : wpAnyM P md ops Q S N fuel l' a' w)
    (h0:ops[i]?=some oi:=by simp only [zg1,zg3,zg2];rfl)
    (h1:Region.noSelect ops=true:=by kernel_rfl) (h2:Region.free md ops listed i=true:=by kernel_rfl) (h3:(Region.ready md ops listed).contains i=true:=by kernel_rfl)
    (hw:Region.wanted oi (yielded ops a.tmps)=false:=by rfl)
    (hq:∀ c a w,Q (.panic c) (a.put oi.dst undef) w→Q (.panic c) a w:=by exact fun _ _ _ h=>h)
    (hl:listed.setIfInBounds i true=l':=by (try simp only [zs1,zs2,zs3]) <;> exact rfl)
    (ha:a.put oi.dst undef=a':=by (try simp only [Act.put,zs1,zs2,zs3]) <;> exact rfl):wpAnyM P md ops Q S N (fuel+1) listed a w:=by
 subst hl ha
 exact takeW i h0 ⟨h1,h2,h3,undef,hq,.inr ⟨hw,rfl⟩,h⟩
theorem ykW (i : Nat) {oi : Oper} {fuel : Nat} {listed l' : Array Bool} {a a' : Act} {w : World} {v : Value} (h : wpAnyM P md ops Q S N fuel l' a' w)
    (h0:ops[i]?=some oi:=by simp only [zg1,zg3,zg2];rfl)
    (h1:Region.noSelect ops=true:=by kernel_rfl) (h2:Region.free md ops listed i=true:=by kernel_rfl) (h3:(Region.ready md ops listed).contains i=true:=by kernel_rfl)
    (hy:YieldsIf P ops (fun _=>True) oi v a)
    (hq:∀ c a w,Q (.panic c) (a.put oi.dst v) w→Q (.panic c) a w:=by exact fun _ _ _ h=>h)
    (hl:listed.setIfInBounds i true=l':=by (try simp only [zs1,zs2,zs3]) <;> exact rfl)
    (ha:a.put oi.dst v=a':=by (try simp only [Act.put,zs1,zs2,zs3]) <;> exact rfl):wpAnyM P md ops Q S N (fuel+1) listed a w:=by
 subst hl ha
 exact takeW i h0 ⟨h1,h2,h3,v,hq,hy,h⟩
theorem tkM (i : Nat) {oi : Oper} {fuel : Nat} {listed l' : Array Bool} {a a' : Act} {w : World} {v : Value} (h : wpAnyM P md ops Q S N fuel l' a' w) (hSw : S w := by exact hHeld)
    (h0:ops[i]?=some oi:=by simp only [zg1,zg3,zg2];rfl)
    (h1:Region.noSelect ops=true:=by kernel_rfl) (h2:Region.free md ops listed i=true:=by kernel_rfl) (h3:(Region.ready md ops listed).contains i=true:=by kernel_rfl)
    (h4:closedB md ops listed=true:=by kernel_rfl) (h5:lateB md ops N i=true:=by kernel_rfl)
    (hw:Region.wanted oi (yielded ops a.tmps)=true:=by rfl) (hz:∀ w,S w→(execOp a.eval oi).run P w=.ok (.value v) w:=by intro w hSw;clear hSw;go_simp;first | done | with_reducible rfl)
    (hq:∀ c a w,Q (.panic c) (a.put oi.dst v) w→Q (.panic c) a w:=by exact fun _ _ _ h=>h)
    (hl:listed.setIfInBounds i true=l':=by (try simp only [zs1,zs2,zs3]) <;> exact rfl)
    (ha:a.put oi.dst v=a':=by (try simp only [Act.put,zs1,zs2,zs3]) <;> exact rfl):wpAnyM P md ops Q S N (fuel+1) listed a w:=by
 subst hl ha
 exact takeM i h0 hSw ⟨h1,h2,h3,h4,h5,v,hq,.inl ⟨hw,hz⟩,h⟩
theorem nkM (i : Nat) {oi : Oper} {fuel : Nat} {listed l' : Array Bool} {a a' : Act} {w : World} (h : wpAnyM P md ops Q S N fuel l' a' w) (hSw : S w := by exact hHeld)
    (h0:ops[i]?=some oi:=by simp only [zg1,zg3,zg2];rfl)
    (h1:Region.noSelect ops=true:=by kernel_rfl) (h2:Region.free md ops listed i=true:=by kernel_rfl) (h3:(Region.ready md ops listed).contains i=true:=by kernel_rfl)
    (h4:closedB md ops listed=true:=by kernel_rfl) (h5:lateB md ops N i=true:=by kernel_rfl)
    (hw:Region.wanted oi (yielded ops a.tmps)=false:=by rfl)
    (hq:∀ c a w,Q (.panic c) (a.put oi.dst undef) w→Q (.panic c) a w:=by exact fun _ _ _ h=>h)
    (hl:listed.setIfInBounds i true=l':=by (try simp only [zs1,zs2,zs3]) <;> exact rfl)
    (ha:a.put oi.dst undef=a':=by (try simp only [Act.put,zs1,zs2,zs3]) <;> exact rfl):wpAnyM P md ops Q S N (fuel+1) listed a w:=by
 subst hl ha
 exact takeM i h0 hSw ⟨h1,h2,h3,h4,h5,undef,hq,.inr ⟨hw,rfl⟩,h⟩
theorem ykM (i : Nat) {oi : Oper} {fuel : Nat} {listed l' : Array Bool} {a a' : Act} {w : World} {v : Value} (h : wpAnyM P md ops Q S N fuel l' a' w) (hSw : S w := by exact hHeld)
    (h0:ops[i]?=some oi:=by simp only [zg1,zg3,zg2];rfl)
    (h1:Region.noSelect ops=true:=by kernel_rfl) (h2:Region.free md ops listed i=true:=by kernel_rfl) (h3:(Region.ready md ops listed).contains i=true:=by kernel_rfl)
    (h4:closedB md ops listed=true:=by kernel_rfl) (h5:lateB md ops N i=true:=by kernel_rfl)
    (hy:YieldsIf P ops S oi v a)
    (hq:∀ c a w,Q (.panic c) (a.put oi.dst v) w→Q (.panic c) a w:=by exact fun _ _ _ h=>h)
    (hl:listed.setIfInBounds i true=l':=by (try simp only [zs1,zs2,zs3]) <;> exact rfl)
    (ha:a.put oi.dst v=a':=by (try simp only [Act.put,zs1,zs2,zs3]) <;> exact rfl):wpAnyM P md ops Q S N (fuel+1) listed a w:=by
 subst hl ha
 exact takeM i h0 hSw ⟨h1,h2,h3,h4,h5,v,hq,hy,h⟩
theorem zf {α:Type} {A B:α} (h:A=B:=by go_simp;first | done | with_reducible rfl):A=B:=h
theorem rdL (i : Nat) {o : Oper} {fuel : Nat} {listed : Array Bool} {a : Act} {w : World}
    (h:∀ K':Act→World→Prop,Shut (∀ a w,S w→(S w→wpAnyH P md ops Q S fuel (listed.setIfInBounds i true) a w)→K' a w)→if Region.wanted o (yielded ops a.tmps)=true then Oper.wp P o a w K' Q else K' (a.put o.dst undef) w)
    (hr:Region.ready md ops listed=[i]:=by kernel_rfl) (ho:ops[i]?=some o:=by simp only [zg1,zg3,zg2];rfl):wpAnyH P md ops Q S (fuel+1) listed a w:=readyL i hr ho h
theorem rdM (i : Nat) {o : Oper} {fuel : Nat} {listed : Array Bool} {a : Act} {w : World}
    (h:∀ K':Act→World→Prop,Shut (∀ a w',(N.contains i=false→S w→S w')→wpAnyM P md ops Q S N fuel (listed.setIfInBounds i true) a w'→K' a w')→if Region.wanted o (yielded ops a.tmps)=true then Oper.wp P o a w K' Q else K' (a.put o.dst undef) w)
    (hr:Region.ready md ops listed=[i]:=by kernel_rfl) (ho:ops[i]?=some o:=by simp only [zg1,zg3,zg2];rfl):wpAnyM P md ops Q S N (fuel+1) listed a w:=readyM i hr ho h
open Go.Lib
theorem cb_range:∀ a b:List UInt8,compareBytes a b = -1∨compareBytes a b=0∨compareBytes a b=1
 | [],[]=>.inr (.inl rfl)
 | [],_::_=>.inl rfl
 | _::_,[]=>.inr (.inr rfl)
 | a::az_,b::bs=>by
  unfold compareBytes;split
  ·exact .inl rfl
  ·split
   ·exact .inr (.inr rfl)
   ·exact cb_range az_ bs
theorem cb_swap:∀ a b:List UInt8,compareBytes b a = - compareBytes a b
 | [],[]=>rfl
 | [],_::_=>rfl
 | _::_,[]=>rfl
 | a::az_,b::bs=>by
  unfold compareBytes;by_cases h1:a < b
  ·have h2:¬ b < a:=fun h=>UInt8.lt_irrefl a (UInt8.lt_trans h1 h)
   simp [h1,h2]
  ·by_cases h2:b < a
   ·simp [h1,h2]
   ·simp only [h1,h2,if_false]
    exact cb_swap az_ bs
theorem cb_eq:∀ a b:List UInt8,compareBytes a b=0↔a=b
 | [],[]=>by simp [compareBytes]
 | [],_::_=>by simp [compareBytes]
 | _::_,[]=>by simp [compareBytes]
 | a::az_,b::bs=>by
  unfold compareBytes;by_cases h1:a < b
  ·have:a≠b:=fun h=>UInt8.lt_irrefl a (by rw [← h] at h1;exact h1)
   simp [h1,this]
  ·by_cases h2:b < a
   ·have:a≠b:=fun h=>UInt8.lt_irrefl a (by rw [← h] at h2;exact h2)
    simp [h1,h2,this]
   ·have:a=b:=UInt8.le_antisymm (UInt8.not_lt.1 h2) (UInt8.not_lt.1 h1)
    rw [if_neg h1,if_neg h2,this];simp only [List.cons.injEq,true_and];exact cb_eq az_ bs
theorem cb_trans:∀ a b c:List UInt8,compareBytes a b = -1→compareBytes b c = -1→compareBytes a c = -1
 | [],[],_,h,_=>by simp [compareBytes] at h
 | [],_::_,[],_,h=>by simp [compareBytes] at h
 | [],_::_,_::_,_,_=>rfl
 | _::_,[],_,h,_=>by simp [compareBytes] at h
 | _::_,_::_,[],_,h=>by simp [compareBytes] at h
 | a::az_,b::bs,c::cs,h,h'=>by
  unfold compareBytes at h h' ⊢;by_cases h1:a < b
  ·by_cases h2:b < c
   ·rw [if_pos (UInt8.lt_trans h1 h2)]
   ·rw [if_neg h2] at h'
    by_cases h3:c < b
    ·rw [if_pos h3] at h';simp at h'
    ·have:b=c:=UInt8.le_antisymm (UInt8.not_lt.1 h3) (UInt8.not_lt.1 h2)
     rw [← this,if_pos h1]
  ·rw [if_neg h1] at h
   by_cases h2:b < a
   ·rw [if_pos h2] at h;simp at h
   ·have e:a=b:=UInt8.le_antisymm (UInt8.not_lt.1 h2) (UInt8.not_lt.1 h1)
    subst e;rw [if_neg h2] at h;by_cases h3:a < c
    ·rw [if_pos h3]
    ·rw [if_neg h3] at h' ⊢
     by_cases h4:c < a
     ·rw [if_pos h4] at h';simp at h'
     ·rw [if_neg h4] at h' ⊢
      exact cb_trans az_ bs cs h h'
abbrev Str:=ByteArray
def scmp (a b:Str):Int:=compareBytes a.data.toList b.data.toList
def slt (a b:Str):Bool:=decide (scmp a b < 0)
theorem scmp_range (a b:Str):scmp a b = -1∨scmp a b=0∨scmp a b=1:=cb_range _ _
theorem scmp_swap (a b:Str):scmp b a = - scmp a b:=cb_swap _ _
theorem str_ext {a b:Str} (h:a.data.toList=b.data.toList):a=b:=by
 obtain ⟨⟨x⟩⟩:=a
 obtain ⟨⟨y⟩⟩:=b
 simp at h
 rw [h]
theorem scmp_eq (a b:Str):scmp a b=0↔a=b :=
 ⟨fun h=>str_ext ((cb_eq _ _).1 h),fun h=>(cb_eq _ _).2 (by rw [h])⟩
theorem slt_irrefl (a:Str):slt a a=false:=by
 have:=(scmp_eq a a).2 rfl
 simp [slt,this]
theorem slt_trans {a b c:Str} (h:slt a b=true) (h':slt b c=true):slt a c=true:=by
 simp only [slt,decide_eq_true_eq] at *
 have h1:scmp a b = -1:=by rcases scmp_range a b with e | e | e <;> omega
 have h2:scmp b c = -1:=by rcases scmp_range b c with e | e | e <;> omega
 have:=cb_trans _ _ _ h1 h2
 unfold scmp
 omega
theorem slt_asymm {a b:Str} (h:slt a b=true):slt b a=false:=by
 simp only [slt,decide_eq_true_eq,decide_eq_false_iff_not] at *
 rw [scmp_swap]
 omega
theorem slt_eq {a b:Str} (h:slt a b=false) (h':slt b a=false):a=b:=by
 simp only [slt,decide_eq_false_iff_not] at *
 rw [scmp_swap] at h'
 exact (scmp_eq a b).1 (by omega)
def sle (a b:Str):Bool:=!slt b a
theorem sle_iff {a b:Str}:sle a b=true↔slt b a=false:=by simp [sle]
theorem sle_refl (a:Str):sle a a=true:=by simp [sle,slt_irrefl]
theorem slt_sle {a b:Str} (h:slt a b=true):sle a b=true:=by simp [sle,slt_asymm h]
theorem sle_slt {a b c:Str} (h:sle a b=true) (h':slt b c=true):slt a c=true:=by
 rw [sle_iff] at h
 cases h1:slt a b
 ·rw [slt_eq h1 h];exact h'
 ·exact slt_trans h1 h'
theorem slt_sle' {a b c:Str} (h:slt a b=true) (h':sle b c=true):slt a c=true:=by
 rw [sle_iff] at h'
 cases h1:slt b c
 ·rw [← slt_eq h1 h'];exact h
 ·exact slt_trans h h1
theorem sle_trans {a b c:Str} (h:sle a b=true) (h':sle b c=true):sle a c=true:=by
 cases h1:slt a b
 ·rw [sle_iff] at h
  rw [slt_eq h1 h];exact h'
 ·exact slt_sle (slt_sle' h1 h')
theorem sle_or {a b:Str} (h:sle a b=true):a=b∨slt a b=true:=by
 rw [sle_iff] at h
 cases h1:slt a b
 ·exact .inl (slt_eq h1 h)
 ·exact .inr rfl
theorem slt_ne {a b:Str} (h:slt a b=true):a≠b:=fun e=>by
 rw [e,slt_irrefl] at h;cases h
abbrev s0:Str:=ByteArray.empty
theorem sle_s0 (a:Str):sle s0 a=true:=by
 rw [sle_iff]
 refine decide_eq_false ?_
 show ¬ compareBytes a.data.toList [] < 0
 cases a.data.toList <;> simp [compareBytes]
abbrev Hd:=Int×Int
structure BN where
 leaf:Bool
 keys:List Str
 vals:List Str
 kids:List Hd
 high:Str
 bnd:Bool
 next:Hd
abbrev Lev:=List (Hd×BN)
def BN.covers (n:BN) (k:Str):Bool:=!n.bnd || slt k n.high
def cut (k:Str) (l:List Str):Nat:=(l.takeWhile fun x=>slt x k).length
def cutE (k:Str) (l:List Str):Nat:=(l.takeWhile fun x=>sle x k).length
def Rises (l:List Str):Prop:=l.Pairwise fun a b=>slt a b=true
theorem cut_le (k:Str) (l:List Str):cut k l≤l.length:=(List.takeWhile_sublist _).length_le
theorem cut_cons (k x:Str) (l:List Str):cut k (x::l)=if slt x k then cut k l+1 else 0:=by
 unfold cut
 rw [List.takeWhile_cons]
 split <;> simp
theorem cutE_cons (k x:Str) (l:List Str):cutE k (x::l)=if sle x k then cutE k l+1 else 0:=by
 unfold cutE
 rw [List.takeWhile_cons]
 split <;> simp
theorem cut_lt {k:Str}:∀ {l:List Str} {i:Nat} {x:Str},i < cut k l→l[i]?=some x→slt x k=true
 | [],i,x,h,_=>by simp [cut] at h
 | y::l,i,x,h,hx=>by
  rw [cut_cons] at h;by_cases hy:slt y k=true
  ·rw [if_pos hy] at h
   cases i with
   | zero=>simp at hx;rw [← hx];exact hy
   | succ i=>exact cut_lt (l:=l) (i:=i) (by omega) (by simpa using hx)
  ·rw [if_neg hy] at h;omega
theorem cut_at {k:Str}:∀ {l:List Str} {x:Str},l[cut k l]?=some x→slt x k=false
 | [],x,h=>by simp at h
 | y::l,x,h=>by
  rw [cut_cons] at h;by_cases hy:slt y k=true
  ·rw [if_pos hy] at h
   exact cut_at (l:=l) (by simpa using h)
  ·rw [if_neg hy] at h
   simp at h;rw [← h];simpa using hy
def hasK (k:Str) (l:List Str):Bool:=match l[cut k l]? with
 | some x=>decide (x=k)
 | none=>false
theorem cutE_eq {k:Str}:∀ {l:List Str},Rises l→cutE k l=cut k l+(if hasK k l then 1 else 0)
 | [],_=>rfl
 | y::l,hr=>by
  obtain ⟨h1,h2⟩:=List.pairwise_cons.1 hr;rw [cutE_cons,cut_cons];unfold hasK;rw [cut_cons];by_cases hy:slt y k=true
  ·rw [if_pos hy,if_pos (slt_sle hy),cutE_eq h2]
   unfold hasK;simp only [zg3];omega
  ·rw [if_neg hy]
   simp only [zg2];by_cases he:sle y k=true
   ·rw [if_pos he]
    rcases sle_or he with h3 | h3
    ·subst h3
     have:cutE y l=0:=by
      cases l with
      | nil=>rfl
      | cons z l =>
       rw [cutE_cons,if_neg];have:=h1 z (by simp);simp [sle,this]
     simp [this]
    ·exact absurd h3 hy
   ·rw [if_neg he]
    have:¬ y=k:=by
     intro h;subst h;exact he (sle_refl _)
    simp [this]
structure NodeOK (lo:Str) (n:BN):Prop where
 rise:Rises n.keys
 low:∀ k,k∈n.keys→sle lo k=true
 cov:∀ k,k∈n.keys→n.covers k=true
 hi0:n.bnd=false→n.high=s0
 lf:n.leaf=true→n.vals.length=n.keys.length∧n.kids=[]
 inn:n.leaf=false→n.vals=[]∧n.kids.length=n.keys.length+1
 room:n.bnd=true→slt lo n.high=true
def BN.add (n:BN) (k:Str) (h:Hd):BN:={ n with keys:=n.keys.insertIdx (cut k n.keys) k,kids:=n.kids.insertIdx (cut k n.keys+1) h }
def BN.mid (n:BN):Nat:=n.keys.length / 2
def BN.sep (n:BN):Str:=n.keys.getD n.mid s0
def BN.left (n:BN) (nx:Hd):BN:={ n with keys:=n.keys.take n.mid,vals:=if n.leaf then n.vals.take n.mid else n.vals,kids:=if n.leaf then n.kids else n.kids.take (n.mid+1),high:=n.sep,bnd:=true,next:=nx }
def BN.rightHalf (n:BN):BN:=if n.leaf then { n with keys:=n.keys.drop n.mid,vals:=n.vals.drop n.mid } else { n with keys:=n.keys.drop (n.mid+1),kids:=n.kids.drop (n.mid+1) }
theorem sep_at {n:BN} (h2:2≤n.keys.length):n.keys[n.mid]?=some n.sep:=by
 have:n.mid < n.keys.length:=by unfold BN.mid;omega
 unfold BN.sep
 rw [List.getD_eq_getElem?_getD,List.getElem?_eq_getElem this]
 rfl
theorem rise_lt {l:List Str} (h:Rises l) {i j:Nat} {x y:Str} (hij:i < j) (hx:l[i]?=some x) (hy:l[j]?=some y):slt x y=true:=by
 obtain ⟨h1,rfl⟩:=List.getElem?_eq_some_iff.1 hx
 obtain ⟨h2,rfl⟩:=List.getElem?_eq_some_iff.1 hy
 exact (List.pairwise_iff_getElem.1 h) i j h1 h2 hij
abbrev Cont:=List (Str×Str)
def first (A:Lev) (nxt:Hd):Hd:=match A with
 | []=>nxt
 | x::_=>x.1
open Go.RowKit
theorem keep {W W':World} (hb:Below W.heap.size W W') {a:Addr} {v:Value} (h:W.cell? a=some v):W'.cell? a=some v:=by
 rw [hb.cell (block_lt_of_cell h)];exact h
structure Upd (S:List Nat) (w w':World):Prop where
 os:w'.os=w.os
 tape:w'.tape=w.tape
 output:w'.output=w.output
 size:w.heap.size≤w'.heap.size
 block:∀ k,k < w.heap.size→k∉S→w'.heap[k]?=w.heap[k]?
theorem Upd.refl (S:List Nat) (w:World):Upd S w w:=⟨rfl,rfl,rfl,Nat.le_refl _,fun _ _ _=>rfl⟩
theorem Upd.trans {S:List Nat} {a b c:World} (h:Upd S a b) (k:Upd S b c):Upd S a c :=
 ⟨k.os.trans h.os,k.tape.trans h.tape,k.output.trans h.output,Nat.le_trans h.size k.size,fun i hi hn=>(k.block i (Nat.lt_of_lt_of_le hi h.size) hn).trans (h.block i hi hn)⟩
theorem Upd.mono {S S':List Nat} {w w':World} (h:Upd S w w') (hS:∀ k,k∈S→k∈S'):Upd S' w w':=⟨h.os,h.tape,h.output,h.size,fun k hk hn=>h.block k hk fun hs=>hn (hS k hs)⟩
theorem Upd.of_below {S:List Nat} {w w':World} (h:Below w.heap.size w w'):Upd S w w':=⟨h.os,h.tape,h.output,h.size,fun k hk _=>h.block k hk⟩
theorem Upd.below {S:List Nat} {w w':World} {B:Nat} (h:Upd S w w') (hB:B≤w.heap.size) (hS:∀ k,k∈S→B≤k):Below B w w' :=
 ⟨h.os,h.tape,h.output,h.size,fun k hk=>h.block k (by omega) fun hs=>by have:=hS k hs;omega⟩
theorem Upd.alloc {S:List Nat} {a w:World} (h:Upd S a w) (o:Obj):Upd S a (w.alloc o):=h.trans (Upd.of_below ((Below.refl _ _).alloc (Nat.le_refl _) _))
theorem Upd.drew {S:List Nat} {a w:World} (h:Upd S a w):Upd S a w.drew:=⟨h.os,h.tape,h.output,h.size,h.block⟩
theorem Upd.setCell {S:List Nat} {a w:World} (h:Upd S a w) {p:Addr} (hp:p.block∈S) (u:Value):Upd S a (w.setCell p u) :=
 h.trans ⟨rfl,rfl,rfl,by simp [World.setCell],fun k _ hn=>Below.heap_setCell _ _ _ _ (fun e=>hn (by rw [e];exact hp))⟩
theorem Upd.setNew {S:List Nat} {a w:World} (h:Upd S a w) {p:Addr} (hp:a.heap.size≤p.block) (u:Value):Upd S a (w.setCell p u) :=
 ⟨h.os,h.tape,h.output,by simp [World.setCell];exact h.size,fun k hk hn=>by rw [Below.heap_setCell _ _ _ _ (by omega)];exact h.block k hk hn⟩
theorem heap_lt {w:World} {b:Nat} {o:Obj} (h:w.heap[b]?=some o):b < w.heap.size:=by
 rcases Nat.lt_or_ge b w.heap.size with h1 | h1
 ·exact h1
 ·rw [Array.getElem?_eq_none h1] at h;cases h
theorem Upd.heap {S:List Nat} {w w':World} (h:Upd S w w') {b:Nat} {o:Obj} (hb:w.heap[b]?=some o) (hn:b∉S):w'.heap[b]?=some o:=by
 rw [h.block b (heap_lt hb) hn];exact hb
theorem Below.heap' {w w':World} (h:Below w.heap.size w w') {b:Nat} {o:Obj} (hb:w.heap[b]?=some o):w'.heap[b]?=some o:=by
 rw [h.block b (heap_lt hb)];exact hb
theorem Upd.cell {S:List Nat} {w w':World} (h:Upd S w w') {a:Addr} {v:Value} (hc:w.cell? a=some v) (hn:a.block∉S):w'.cell? a=some v:=by
 rw [World.cell?_of_block (h.block _ (block_lt_of_cell hc) hn)];exact hc
theorem heap_set_same {w:World} {b:Nat} {c:Array Value} {t:TypeId} {fr:Nat×Nat} (h:w.heap[b]?=some (.cells c t fr)) (i:Nat) (v:Value):(w.setCell ⟨b,i,none⟩ v).heap[b]?=some (.cells (c.setIfInBounds i v) t fr):=by
 simp [World.setCell,Array.getElem?_modify,h]
theorem heap_set_other {w:World} {b:Nat} (p:Addr) (v:Value) (h:b≠p.block):(w.setCell p v).heap[b]?=w.heap[b]?:=Below.heap_setCell _ _ _ _ h
theorem heap_alloc_old {w:World} {b:Nat} {o:Obj} (o':Obj) (h:w.heap[b]?=some o):(w.alloc o').heap[b]?=some o:=by
 rw [Below.heap_alloc _ _ _ (heap_lt h)];exact h
theorem heap_alloc_new (w:World) (o:Obj):(w.alloc o).heap[w.heap.size]?=some o:=by
 show (w.heap.push o)[w.heap.size]?=_
 simp
theorem cell_of_heap {w:World} {b:Nat} {c:Array Value} {t:TypeId} {fr:Nat×Nat} (h:w.heap[b]?=some (.cells c t fr)) (i:Nat):w.cell? ⟨b,i,none⟩=c[i]?:=by
 unfold World.cell?
 rw [h]
 rfl
theorem frozen_of_heap {w:World} {b:Nat} {c:Array Value} {t:TypeId} (h:w.heap[b]?=some (.cells c t)) (i:Nat):w.frozen? ⟨b,i,none⟩=false:=by
 unfold World.frozen?
 rw [h]
 simp
open Go.RowKit
set_option maxRecDepth 100000 in
theorem bytealgCompare_any (a b:Str) (w:World):Calls Tryz.prog 157 #[.string a,.string b] w fun e w'=>e=.returned (.int .i64 (scmp a b))∧w=w':=by
 go_enter Tryz.func157,Tryz.ntmps157
 go_wp2
 rw [run_callFunc_extern Tryz.func170 (by kernel_rfl) (by kernel_rfl) (by kernel_rfl) (e:=Extern.BytealgCompare.compare) (by kernel_rfl),Lib.run_compareString]
 simp only [Result.andThen]
 rw [Oper.upon_value]
 go_wp2
 go_ret
 exact ⟨rfl,rfl⟩
theorem compare_any (a b:Str) (w:World):Calls Tryz.prog 120 #[.string a,.string b] w fun e w'=>e=.returned (.int .i64 (scmp a b))∧w=w':=by
 have h1:Calls Tryz.prog 147 #[.string a,.string b] w fun e w'=>e=.returned (.int .i64 (scmp a b))∧w=w':=by
  go_enter Tryz.func147,Tryz.ntmps147
  go_wp2_with (go_at_call 157;refine (bytealgCompare_any a b w).mono ?_;rintro e w1 ⟨rfl,rfl⟩)
  go_ret;exact ⟨rfl,rfl⟩
 go_enter Tryz.func120,Tryz.ntmps120
 go_wp2_with (go_at_call 147;refine h1.mono ?_;rintro e w1 ⟨rfl,rfl⟩)
 go_ret
 exact ⟨rfl,rfl⟩
open Go.RowKit
def SrcOf (w:World) (u:Value) (m k:Nat) (news:List Value):Prop :=
 news.length=m*k∧(∀ y∈news,y.oneCell'=true)∧((u=.slice none 0 0∧m=0)∨∃ ad c,u=.slice (some ad) m c∧∀ j y,news[j]?=some y→w.cell? (ad.add j)=some y)
def Row {α:Type} (base:Nat) (e:TypeId) (k:Nat) (f:α→List Value) (w:World) (v:Value) (L:List α):Prop :=
 (∀ x,(f x).length=k)∧(∀ x,∀ y∈f x,y.oneCell'=true)∧w.ownsRow base e k v L.length (L.flatMap f)
section
variable {α:Type} {base k:Nat} {e:TypeId} {f:α→List Value} {w w':World} {v:Value} {L:List α}
theorem flat_len (hf:∀ x,(f x).length=k) (L:List α):(L.flatMap f).length=L.length*k:=by
 induction L with
 | nil=>simp
 | cons a l ih=>rw [List.flatMap_cons,List.length_append,ih,hf,List.length_cons,Nat.add_mul,Nat.one_mul,Nat.add_comm]
theorem flat_get (hf:∀ x,(f x).length=k):∀ (L:List α) (i:Nat) (x:α),L[i]?=some x→∀ j y,(f x)[j]?=some y→(L.flatMap f)[i*k+j]?=some y
 | [],i,x,h,_,_,_=>by simp at h
 | a::l,0,x,h,j,y,hy=>by
  simp at h;subst h;rw [Nat.zero_mul,Nat.zero_add,List.flatMap_cons,List.getElem?_append_left (List.getElem?_eq_some_iff.1 hy).1];exact hy
 | a::l,i+1,x,h,j,y,hy=>by
  have:=flat_get hf l i x (by simpa using h) j y hy;rw [List.flatMap_cons,List.getElem?_append_right (by rw [hf,Nat.add_mul];omega),hf,show (i+1)*k+j - k=i*k+j by rw [Nat.add_mul];omega];exact this
theorem flat_one (h1:∀ x,∀ y∈f x,y.oneCell'=true) (L:List α):∀ y∈L.flatMap f,y.oneCell'=true:=by
 intro y hy
 obtain ⟨x,_,hx⟩:=List.mem_flatMap.1 hy
 exact h1 x y hx
theorem Row.nil (hf:∀ x,(f x).length=k) (h1:∀ x,∀ y∈f x,y.oneCell'=true) (base:Nat) (e:TypeId) (w:World):Row base e k f w (.slice none 0 0) []:=⟨hf,h1,World.ownsRow_nil w base e k⟩
theorem Row.lt (h:Row base e k f w v L):∀ b,v.ownBlock=some b→base≤b∧b < w.heap.size:=h.2.2.lt
theorem Row.shape (h:Row base e k f w v L):∃ a c,v=.slice a L.length c:=by
 rcases h.2.2.2 with ⟨rfl,h2⟩ | ⟨g,cap,cur,rfl,_⟩
 ·exact ⟨_,_,by rw [h2]⟩
 ·exact ⟨_,_,rfl⟩
theorem Row.cases (h : Row base e k f w v L) : (v = .slice none 0 0 ∧ L = []) ∨ ∃ b cap, v = .slice (some ⟨b, 0, none⟩) L.length cap ∧ base ≤ b ∧ b < w.heap.size ∧ v.ownBlock = some b ∧ L.length ≤ cap ∧ cap ≤ maxLen ∧
    (∀ j y,(L.flatMap f)[j]?=some y→w.cell? ⟨b,j,none⟩=some y)∧∀ j,w.frozen? ⟨b,j,none⟩=false:=by
 have hl:∀ g,v.ownBlock=some g→_:=fun g hg=>h.2.2.cells (g:=g) hg
 rcases h.2.2.2 with ⟨rfl,h2⟩ | ⟨g,cap,cur,rfl,h3,h4,h5,h6,h7,h8⟩
 ·exact .inl ⟨rfl,List.length_eq_zero_iff.1 h2⟩
 ·refine .inr ⟨g,cap,rfl,h3,heap_lt h4,rfl,h5,h6,fun j y hj=>?_,frozen_of_heap h4⟩
  have:=hl g rfl j y hj
  rwa [Addr.add_lit,Nat.zero_add] at this
theorem Row.at (h : Row base e k f w v L) {i : Nat} {x : α} (hi : L[i]? = some x) : ∃ b cap, v = .slice (some ⟨b, 0, none⟩) L.length cap ∧ v.ownBlock = some b ∧ base ≤ b ∧ b < w.heap.size ∧ L.length ≤ cap ∧ cap ≤ maxLen ∧ i < L.length ∧
    ∀ j y,(f x)[j]?=some y→w.cell? ⟨b,i*k+j,none⟩=some y:=by
 rcases h.cases with ⟨_,rfl⟩ | ⟨b,cap,h1,h2,h3,h4,h5,h6,h7,_⟩
 ·simp at hi
 ·exact ⟨b,cap,h1,h4,h2,h3,h5,h6,(List.getElem?_eq_some_iff.1 hi).1,fun j y hy=>h7 _ _ (flat_get h.1 L i x hi j y hy)⟩
theorem Row.upd {S:List Nat} (h:Row base e k f w v L) (hu:Upd S w w') (hS:∀ b,v.ownBlock=some b→b∉S):Row base e k f w' v L:=by
 refine ⟨h.1,h.2.1,h.2.2.1,?_⟩
 rcases h.2.2.2 with h2 | ⟨g,cap,cur,rfl,h3,h4,h5⟩
 ·exact .inl h2
 ·exact .inr ⟨g,cap,cur,rfl,h3,hu.heap h4 (hS g rfl),h5⟩
theorem Row.below (h:Row base e k f w v L) (hb:Below w.heap.size w w'):Row base e k f w' v L:=h.upd (Upd.of_below (S:=[]) hb) (by simp)
theorem Row.rebase {base':Nat} (h:Row base e k f w v L) (hb:∀ b,v.ownBlock=some b→base'≤b):Row base' e k f w v L:=by
 refine ⟨h.1,h.2.1,h.2.2.1,?_⟩
 rcases h.2.2.2 with h2 | ⟨g,cap,cur,rfl,h3,h4⟩
 ·exact .inl h2
 ·exact .inr ⟨g,cap,cur,rfl,hb g rfl,h4⟩
theorem SrcOf.below {u:Value} {m:Nat} {news:List Value} (h:SrcOf w u m k news) (hb:Below w.heap.size w w'):SrcOf w' u m k news:=by
 refine ⟨h.1,h.2.1,?_⟩
 rcases h.2.2 with h0 | ⟨ad,c,h0,h1⟩
 ·exact .inl h0
 ·exact .inr ⟨ad,c,h0,fun j y hj=>by rw [hb.cell (block_lt_of_cell (h1 j y hj))];exact h1 j y hj⟩
theorem SrcOf.one (w:World) (t:TypeId) (xs:List Value) (h1:∀ y∈xs,y.oneCell'=true):SrcOf (w.alloc (.cells xs.toArray t)) (.slice (some ⟨w.heap.size,0,none⟩) 1 1) 1 xs.length xs:=by
 refine ⟨by omega,h1,.inr ⟨_,_,rfl,fun j y hj=>?_⟩⟩
 rw [Addr.add_lit,Nat.zero_add,cell_of_heap (heap_alloc_new _ _)]
 simpa using hj
theorem Upd.of_grown (hg:w.grownBy w' v.ownBlock):Upd v.ownBlock.toList w w' :=
 ⟨hg.os,hg.tape,hg.output,hg.size,fun j hj hn=>hg.block j hj (fun e=>hn (by rw [← e];simp))⟩
theorem mem_own {v:Value} {b:Nat} (h:b∈v.ownBlock.toList):v.ownBlock=some b:=by
 cases hq:v.ownBlock <;> rw [hq] at h <;> simp at h
 rw [h]
end
section
variable {P:Program} (w:World)
theorem run_append_src (base : Nat) (t ty e : TypeId) (i : TypeInfo) (z : Value) (size bytes : Nat) (ht : P.underlying t = some (.slice e)) (hi : P.info? e = some i) (hz : i.zero = some z)
    (hsize:i.size=size) (hby:i.bytes=bytes) (hzs:z.cells.size=size) (hsz:0 < size)
    (v:Value) (n:Nat) (xs:List Value) (hown:w.ownsRow base e size v n xs) (u:Value) (m:Nat) (news:List Value) (hs:SrcOf w u m size news)
    (h63:n+m≤maxLen) (hbytes:(n+m)*bytes≤140737488355328) (hbase:base≤w.heap.size) :
    ∃ v' w',(Builtin.append_ #[t,t] ty #[v,u]).run P w=.ok v' w'∧w'.ownsRow base e size v' (n+m) (xs++news)∧w.grownBy w' v.ownBlock∧(v'.ownBlock=v.ownBlock∨v'.ownBlock=some w.heap.size):=by
 obtain ⟨hl,h1,⟨rfl,rfl⟩ | ⟨ad,c,rfl,hc⟩⟩:=hs
 ·obtain rfl:news=[]:=List.eq_nil_of_length_eq_zero (by simpa using hl)
  refine ⟨v,w,?_,by simpa using hown,⟨rfl,rfl,rfl,Nat.le_refl _,fun _ _ _=>rfl⟩,.inl rfl⟩;rcases hown.2 with ⟨rfl,rfl⟩ | ⟨g,cap,cur,rfl,_,hg,hnc,_⟩
  ·subst hsize
   simp [Builtin.append_,run_underlying ht,sizeOf,typeInfo,hi,Builtin.lenOf,Builtin.firstCells]
  ·subst hsize
   simp [Builtin.append_,run_underlying ht,sizeOf,typeInfo,hi,Builtin.lenOf,Builtin.firstCells,loadCells,hnc,storeCells]
 ·obtain ⟨v',w',hr,h2,h3,_,h5⟩:=run_append_own_at (P:=P) w base t ty e i z size bytes ht hi hz hsize hby hzs hsz v n xs hown ad m c news hl hc h1 h63 hbytes hbase
  exact ⟨v',w',hr,h2,h3,h5⟩
variable {ops:Array Oper} {rest:List Oper} {o:Oper} {a:Act} {Q:Exit→Act→World→Prop}
theorem wpList_append_row {α : Type} {f : α → List Value} (hgd : o.guard = none) (s x : Operand) (t : TypeId) (ho : o.op = .call { callee := .builtin .append, args := #[s, x], argTypes := #[t, t] })
    (base:Nat) (e:TypeId) (i:TypeInfo) (z:Value) (size bytes:Nat) (ht:P.underlying t=some (.slice e)) (hi:P.info? e=some i) (hz:i.zero=some z)
    (hsize:i.size=size) (hby:i.bytes=bytes) (hzs:z.cells.size=size) (hsz:0 < size) (v:Value) (L:List α) (hs:a.eval s=v) (hown:Row base e size f w v L)
    (M:List α) (u:Value) (hx:a.eval x=u) (hsrc:SrcOf w u M.length size (M.flatMap f)) (h63:L.length+M.length≤maxLen) (hbytes:(L.length+M.length)*bytes≤140737488355328) (hbase:base≤w.heap.size)
    (h:∀ a' c' w',Row base e size f w' (.slice a' (L.length+M.length) c') (L++M)→Upd v.ownBlock.toList w w'→((Value.slice a' (L.length+M.length) c').ownBlock=v.ownBlock∨(Value.slice a' (L.length+M.length) c').ownBlock=some w.heap.size)→wpList P ops Q rest (a.put o.dst (.slice a' (L.length+M.length) c')) w') :
    wpList P ops Q (o::rest) a w:=by
 refine wpList_plain hgd fun K hK=>?_
 obtain ⟨v',w',hr,h2,h3,h5⟩:=run_append_src (P:=P) w base t o.type e i z size bytes ht hi hz hsize hby hzs hsz v _ _ hown.2.2 u _ _ hsrc h63 hbytes hbase
 have hR:Row base e size f w' v' (L++M):=⟨hown.1,hown.2.1,by rw [List.length_append,List.flatMap_append];exact h2⟩
 obtain ⟨a',c',he⟩:=hR.shape
 rw [List.length_append] at he
 subst he
 unfold Oper.wp execOp
 simp only [ho,resolve,invoke,builtin,Sem.run_bind,Sem.run_pure,Result.andThen_ok,List.map_toArray,List.map_cons,List.map_nil,hs,hx,hr]
 exact hK _ _ (h a' c' w' hR (Upd.of_grown h3) h5)
end
open Go.RowKit
def At {α:Type} (w:World) (k:Nat) (f:α→List Value) (a:Option Addr) (c:Nat) (L:List α):Prop :=
 L.length≤c∧c≤9223372036854775807∧((a=none∧c=0)∨∃ b o,a=some ⟨b,o,none⟩∧(L≠[]→b < w.heap.size)∧∀ i x,L[i]?=some x→∀ j y,(f x)[j]?=some y→w.cell? ⟨b,o+i*k+j,none⟩=some y)
def scell (x:Str):List Value:=[.string x]
def hcel (x:Hd):List Value:=[.int .i64 x.1,.int .u64 x.2]
theorem At.below {α:Type} {w w':World} {k:Nat} {f:α→List Value} {a:Option Addr} {c:Nat} {L:List α} (h:At w k f a c L) (hb:Below w.heap.size w w'):At w' k f a c L:=by
 obtain ⟨h1,h2,h3⟩:=h
 refine ⟨h1,h2,?_⟩
 rcases h3 with h3 | ⟨b,o,e,h4,h5⟩
 ·exact .inl h3
 ·exact .inr ⟨b,o,e,fun hn=>Nat.lt_of_lt_of_le (h4 hn) hb.size,fun i x hx j y hy=>keep hb (h5 i x hx j y hy)⟩
theorem At.some {α : Type} {w : World} {k : Nat} {f : α → List Value} {a : Option Addr} {c : Nat} {L : List α} (h : At w k f a c L) (hn : 0 < L.length) :
    ∃ b o,a=some ⟨b,o,none⟩∧b < w.heap.size∧L.length≤c∧c≤9223372036854775807∧∀ i x,L[i]?=some x→∀ j y,(f x)[j]?=some y→w.cell? ⟨b,o+i*k+j,none⟩=some y:=by
 obtain ⟨h1,h2,h3⟩:=h
 rcases h3 with ⟨_,h3⟩ | ⟨b,o,e,h4,h5⟩
 ·omega
 ·exact ⟨b,o,e,h4 (by intro e;rw [e] at hn;simp at hn),h1,h2,h5⟩
theorem At.str {w : World} {a : Option Addr} {c : Nat} {L : List Str} (h : At w 1 scell a c L) (hn : 0 < L.length) :
    ∃ b o,a=Option.some ⟨b,o,none⟩∧b < w.heap.size∧L.length≤c∧c≤9223372036854775807∧∀ i x,L[i]?=Option.some x→w.cell? ⟨b,o+i,none⟩=Option.some (.string x):=by
 obtain ⟨b,o,e,h1,h2,h3,h4⟩:=h.some hn
 refine ⟨b,o,e,h1,h2,h3,fun i x hx=>?_⟩
 have:=h4 i x hx 0 _ rfl
 simpa using this
theorem str_beq (x y:Str):(ByteArray.toList x == ByteArray.toList y)=decide (x=y):=by
 rw [ByteArray.toList_eq,ByteArray.toList_eq]
 by_cases h:x=y
 ·simp [h]
 ·have:¬ x.data=y.data:=fun e=>h (str_ext (by rw [e]))
  simp [h,this]
theorem nCovers_any (qf:Bool) (qka:Option Addr) (qkl qkc:Nat) (qva:Option Addr) (qvl qvc:Nat) (qha:Option Addr) (qhl qhc:Nat) (qhi:Str) (qbd:Bool) (qns qng:Int) (key:Str) (w:World):Calls Tryz.prog 126 #[(.agg #[.bool qf,.slice qka qkl qkc,.slice qva qvl qvc,.slice qha qhl qhc,.string qhi,.bool qbd,.int .i64 qns,.int .u64 qng]),.string key] w fun e w'=>e=.returned (.bool (!qbd || slt key qhi))∧Below w.heap.size w w':=by
 cases qbd with
 | false =>
  go_enter Tryz.func126,Tryz.ntmps126
  go_wp2;go_ret;exact ⟨rfl,(Below.refl _ _).alloc (Nat.le_refl _) _⟩
 | true =>
  have hc:=fun W=>compare_any key qhi W
  cases hs:slt key qhi with
  | true =>
   have hlt:scmp key qhi < 0:=by simpa [slt] using hs
   go_enter Tryz.func126,Tryz.ntmps126
   go_wp2_with (go_at_call 120;refine (hc _).mono ?_;rintro e w1 ⟨rfl,rfl⟩)
   go_ret;exact ⟨rfl,(Below.refl _ _).alloc (Nat.le_refl _) _⟩
  | false =>
   have hlt:¬ scmp key qhi < 0:=by simpa [slt] using hs
   go_enter Tryz.func126,Tryz.ntmps126
   go_wp2_with (go_at_call 120;refine (hc _).mono ?_;rintro e w1 ⟨rfl,rfl⟩)
   go_ret;exact ⟨by simp [hlt],(Below.refl _ _).alloc (Nat.le_refl _) _⟩
theorem nFull_any (qf:Bool) (qka:Option Addr) (qkl qkc:Nat) (qva:Option Addr) (qvl qvc:Nat) (qha:Option Addr) (qhl qhc:Nat) (qhi:Str) (qbd:Bool) (qns qng:Int) (w:World):Calls Tryz.prog 79 #[(.agg #[.bool qf,.slice qka qkl qkc,.slice qva qvl qvc,.slice qha qhl qhc,.string qhi,.bool qbd,.int .i64 qns,.int .u64 qng])] w fun e w'=>e=.returned (.bool (decide (4 < qkl)))∧Below w.heap.size w w':=by
 by_cases h:4 < qkl
 ·have h1:(4:Int) < qkl:=by omega
  go_enter Tryz.func79,Tryz.ntmps79
  go_wp2;go_ret;exact ⟨by simp [h],(Below.refl _ _).alloc (Nat.le_refl _) _⟩
 ·have h1:¬ (4:Int) < qkl:=by omega
  go_enter Tryz.func79,Tryz.ntmps79
  go_wp2;go_ret;exact ⟨by simp,(Below.refl _ _).alloc (Nat.le_refl _) _⟩
theorem nFind_any (qf : Bool) (qka : Option Addr) (qkl qkc : Nat) (qva : Option Addr) (qvl qvc : Nat) (qha : Option Addr) (qhl qhc : Nat) (qhi : Str) (qbd : Bool) (qns qng : Int) (K : List Str) (key : Str) (w : World) (hK : At w 1 scell qka qkc K) (eK : K.length = qkl) :
    Calls Tryz.prog 76 #[(.agg #[.bool qf,.slice qka qkl qkc,.slice qva qvl qvc,.slice qha qhl qhc,.string qhi,.bool qbd,.int .i64 qns,.int .u64 qng]),.string key] w fun e w'=>e=.returned (.tuple #[.int .i64 (cut key K:Nat),.bool (hasK key K)])∧Below w.heap.size w w':=by
 subst eK
 have hc:=fun W a b=>compare_any a b W
 by_cases h0:K.length=0
 ·have e0:K=[]:=List.length_eq_zero_iff.1 h0
  subst e0
  go_enter Tryz.func76,Tryz.ntmps76
  go_wp2
  go_loop [4] (fun i=>i=.int .i64 0) (fun _=>0)
  case atStart=>rfl
  case round =>
   subst hrel;go_wp2_with fail;go_quiet (fail);go_wp2;go_ret2;exact ⟨rfl,below_drewN ((Below.refl _ _).alloc (Nat.le_refl _) _) _⟩
 ·obtain ⟨b,o,rfl,hb,hle,hc63,hcell⟩:=hK.str (by omega)
  replace hcell:=qh hcell;have hcl:=cut_le key K;have hlow:Hid (∀ i x,i < cut key K→K[i]?=some x→scmp x key < 0):=qh fun i x h1 h2=>by simpa [slt] using cut_lt h1 h2
  have hhit:Hid (∀ x,K[cut key K]?=some x→¬ scmp x key < 0∧hasK key K=decide (x=key)):=qh fun x hx=>⟨by simpa [slt] using cut_at hx,by unfold hasK;rw [hx]⟩
  have hend:Hid (cut key K=K.length→hasK key K=false):=qh fun h=>by unfold hasK;rw [List.getElem?_eq_none (by omega)]
  generalize hasK key K=r at *;generalize cut key K=m at *
  go_enter Tryz.func76,Tryz.ntmps76
  go_wp2
  go_loop [4] (fun i=>∃ k:Nat,k≤m∧i=.int .i64 k) (fun i=>K.length+1 - (intOf i).toNat)
  case atStart=>exact ⟨0,Nat.zero_le _,rfl⟩
  case round =>
   obtain ⟨k,hk,rfl⟩:=hrel;rcases Nat.lt_or_ge k m with hlt | hge
   ·have hkl:k < K.length:=by omega
    obtain ⟨x,hx⟩:∃ x,K[k]?=some x:=⟨_,List.getElem?_eq_getElem hkl⟩;have g1:=hcell.out k x hx;have hneg:=hlow.out k x hlt hx
    go_wp2_with (go_at_call 120;refine (hc _ _ _).mono ?_;rintro e w1 ⟨rfl,rfl⟩)
    go_round
    case rel=>exact ⟨k+1,by omega,by go_num⟩
    case measure=>simp [intOf];omega
   ·obtain rfl:k=m:=by omega
    by_cases hkl:k < K.length
    ·obtain ⟨x,hx⟩:∃ x,K[k]?=some x:=⟨_,List.getElem?_eq_getElem hkl⟩
     have g1:=hcell.out _ x hx;obtain ⟨hneg,hr⟩:=hhit.out x hx;replace hr:=qh hr;clear hx
     go_wp2_with (go_at_call 120;refine (hc _ _ _).mono ?_;rintro e w1 ⟨rfl,rfl⟩)
     go_quiet (fail);go_wp2;go_ret2;exact ⟨by simp [hr.out,str_beq],below_drewN ((Below.refl _ _).alloc (Nat.le_refl _) _) _⟩
    ·obtain rfl:k=K.length:=by omega
     go_wp2;go_quiet (fail);go_wp2;go_ret2;exact ⟨by simp [hend.out trivial],below_drewN ((Below.refl _ _).alloc (Nat.le_refl _) _) _⟩
open Go.RowKit
theorem node_cells (qf : Bool) (qka : Option Addr) (qkl qkc : Nat) (qva : Option Addr) (qvl qvc : Nat) (qha : Option Addr) (qhl qhc : Nat) (qhi : Str) (qbd : Bool) (qns qng : Int) {w : World} {q : Nat} (h : w.heap[q]? = some (.cells #[.bool qf, .slice qka qkl qkc, .slice qva qvl qvc, .slice qha qhl qhc, .string qhi, .bool qbd, .int .i64 qns, .int .u64 qng] 98)) :
    w.cell? ⟨q,0,none⟩=some (.bool qf)∧w.cell? ⟨q,1,none⟩=some (.slice qka qkl qkc)∧w.cell? ⟨q,2,none⟩=some (.slice qva qvl qvc)∧w.cell? ⟨q,3,none⟩=some (.slice qha qhl qhc) ∧
    w.cell? ⟨q,4,none⟩=some (.string qhi)∧w.cell? ⟨q,5,none⟩=some (.bool qbd)∧w.cell? ⟨q,6,none⟩=some (.int .i64 qns)∧w.cell? ⟨q,7,none⟩=some (.int .u64 qng):=by
 refine ⟨?_,?_,?_,?_,?_,?_,?_,?_⟩ <;> rw [cell_of_heap h] <;> rfl
theorem nRight_any (qf : Bool) (qka : Option Addr) (qkl qkc : Nat) (qva : Option Addr) (qvl qvc : Nat) (qha : Option Addr) (qhl qhc : Nat) (qhi : Str) (qbd : Bool) (qns qng : Int) (K : List Str) (w : World) (hK : At w 1 scell qka qkc K) (eK : K.length = qkl) (hr : Rises K) (hcv : ∀ k, k ∈ K → (!qbd || slt k qhi) = true) (h0 : qbd = false → qhi = s0)
    (hs:(qf=true∧qvl=qkl∧qhl=0)∨(qf=false∧qvl=0∧qhl=qkl+1)) (hsm:qkl≤1000) :
    Calls Tryz.prog 133 #[(.agg #[.bool qf,.slice qka qkl qkc,.slice qva qvl qvc,.slice qha qhl qhc,.string qhi,.bool qbd,.int .i64 qns,.int .u64 qng])] w fun e w'=>e=.returned (.bool true)∧Below w.heap.size w w':=by
 subst eK
 have hc:=fun W a b=>compare_any a b W
 have hcov:=qh fun key W=>nCovers_any qf qka K.length qkc qva qvl qvc qha qhl qhc qhi qbd qns qng key W
 replace hr:=qh hr
 replace hcv:=qh hcv
 replace hs:=qh hs
 replace h0:=qh h0
 have hKl:K.length≤9223372036854775807:=Nat.le_trans hK.1 hK.2.1
 replace hK:=qh hK
 have hw1:IntKind.i64.wrap ((K.length:Int)+1)=(K.length:Int)+1:=IntWalk.i64_in _ (by omega)
 go_enter Tryz.func133,Tryz.ntmps133
 go_wp2
 go_loopw [8] (fun i wr=>∃ k:Nat,k≤K.length∧i=.int .i64 k∧Below w.heap.size w wr∧wr.heap[w.heap.size]?=some (.cells #[.bool qf,.slice qka K.length qkc,.slice qva qvl qvc,.slice qha qhl qhc,.string qhi,.bool qbd,.int .i64 qns,.int .u64 qng] 98)) (fun i _=>K.length+1 - (intOf i).toNat)
 case atStart=>exact ⟨0,Nat.zero_le _,rfl,(Below.refl _ _).alloc (Nat.le_refl _) _,heap_alloc_new _ _⟩
 case round =>
  obtain ⟨k,hk,rfl,hB,hbx⟩:=hrel;obtain ⟨c0,c1,c2,c3,c4,c5,c6,c7⟩:=node_cells _ _ _ _ _ _ _ _ _ _ _ _ _ _ hbx;have hqs:w.heap.size < wr.heap.size:=heap_lt hbx;by_cases hkl:k < K.length
  ·obtain ⟨b,o,rfl,hb,hle,hc63,hcell⟩:=hK.out.str (by omega)
   replace hcell:=qh hcell;obtain ⟨x,hx⟩:∃ x,K[k]?=some x:=⟨_,List.getElem?_eq_getElem hkl⟩;have g1:=keep hB (hcell.out k x hx);have hcx:=fun W=>hcov.out x W
   rw [hcv.out x (List.mem_of_getElem? hx)] at hcx;have hbr:b < wr.heap.size:=block_lt_of_cell g1;rcases k with _ | k
   ·rw [Nat.add_zero] at g1
    go_wp2_with (first | (go_at_call 120;refine (hc _ _ _).mono ?_;rintro e w1 ⟨rfl,rfl⟩) | (go_at_call 126;refine (hcx _).mono ?_;rintro e w1 ⟨rfl,hb1⟩))
    go_roundw
    case rel=>exact ⟨1,by omega,by go_num,hB.trans (hb1.mono hB.size),Below.heap' hb1 hbx⟩
    case measure=>simp [intOf]
   ·obtain ⟨y,hy⟩:∃ y,K[k]?=some y:=⟨_,List.getElem?_eq_getElem (by omega)⟩
    have g2:=keep hB (hcell.out k y hy);have e1:((k+1:Nat):Int) - 1=k:=by omega
    have e2:(0:Int) < ((k+1:Nat):Int):=by omega
    have e3:k < K.length:=by omega
    have e4:¬ (0:Int)≤scmp y x:=by
     have:=rise_lt hr.out (Nat.lt_succ_self k) hy hx;simp only [slt,decide_eq_true_eq] at this;omega
    go_wp2_with (first | (go_at_call 120;refine (hc _ _ _).mono ?_;rintro e w1 ⟨rfl,rfl⟩) | (go_at_call 126;refine (hcx _).mono ?_;rintro e w1 ⟨rfl,hb1⟩))
    go_roundw
    case rel=>exact ⟨k+2,by omega,by go_num,hB.trans (hb1.mono hB.size),Below.heap' hb1 hbx⟩
    case measure=>simp [intOf];omega
  ·obtain rfl:k=K.length:=by omega
   rcases hs.out with ⟨rfl,rfl,rfl⟩ | ⟨rfl,rfl,rfl⟩
   ·cases qbd with
    | true =>
     go_wp2;go_ret;exact ⟨by simp,hB⟩
    | false =>
     have e0:=h0.out rfl;subst e0;go_wp2;go_ret;exact ⟨by simp,hB⟩
   ·cases qbd with
    | true =>
     go_wp2;go_ret;exact ⟨by simp,hB⟩
    | false =>
     have e0:=h0.out rfl;subst e0;go_wp2;go_ret;exact ⟨by simp,hB⟩
open Go.RowKit
def NodeAt (w:World) (n:BN) (qka qva qha:Option Addr) (qkc qvc qhc:Nat):Prop:=At w 1 scell qka qkc n.keys∧At w 1 scell qva qvc n.vals∧At w 2 hcel qha qhc n.kids
theorem NodeAt.below {w w':World} (n:BN) (qka qva qha:Option Addr) (qkc qvc qhc:Nat) (h:NodeAt w n qka qva qha qkc qvc qhc) (hb:Below w.heap.size w w'):NodeAt w' n qka qva qha qkc qvc qhc:=⟨h.1.below hb,h.2.1.below hb,h.2.2.below hb⟩
theorem NodeOK.shape {lo:Str} {n:BN} (h:NodeOK lo n):(n.leaf=true∧n.vals.length=n.keys.length∧n.kids.length=0)∨(n.leaf=false∧n.vals.length=0∧n.kids.length=n.keys.length+1):=by
 cases hl:n.leaf
 ·exact .inr ⟨rfl,by rw [(h.inn hl).1];rfl,(h.inn hl).2⟩
 ·exact .inl ⟨rfl,(h.lf hl).1,by rw [(h.lf hl).2];rfl⟩
theorem nRight_ok (n:BN) (qka qva qha:Option Addr) (qkc qvc qhc:Nat) {lo:Str} (w:World) (h:NodeOK lo n) (hn:NodeAt w n qka qva qha qkc qvc qhc) (hsm:n.keys.length≤1000):Calls Tryz.prog 133 #[.agg #[.bool n.leaf,.slice qka n.keys.length qkc,.slice qva n.vals.length qvc,.slice qha n.kids.length qhc,.string n.high,.bool n.bnd,.int .i64 n.next.1,.int .u64 n.next.2]] w fun e w'=>e=.returned (.bool true)∧Below w.heap.size w w' :=
 nRight_any _ _ _ _ _ _ _ _ _ _ _ _ _ _ n.keys w hn.1 rfl h.rise h.cov h.hi0 h.shape hsm
theorem heap_two (w:World) (o o':Obj):((w.alloc o).alloc o').heap[w.heap.size]?=some o∧((w.alloc o).alloc o').heap[w.heap.size+1]?=some o':=by
 refine ⟨heap_alloc_old _ (heap_alloc_new _ _),?_⟩
 have:=heap_alloc_new (w.alloc o) o'
 simpa using this
theorem below_two (w:World) (o o':Obj):Below w.heap.size w ((w.alloc o).alloc o'):=((Below.refl _ _).alloc (Nat.le_refl _) _).alloc (by simp) _
theorem nKid_ok (n : BN) (qka qva qha : Option Addr) (qkc qvc qhc : Nat) {lo : Str} (key : Str) (h : Hd) (w : World) (ho : NodeOK lo n) (hn : NodeAt w n qka qva qha qkc qvc qhc) (hsm : n.keys.length ≤ 1000) (hl : n.leaf = false) (hc : n.covers key = true) (hh : n.kids[cutE key n.keys]? = some h) :
    Calls Tryz.prog 96 #[.agg #[.bool n.leaf,.slice qka n.keys.length qkc,.slice qva n.vals.length qvc,.slice qha n.kids.length qhc,.string n.high,.bool n.bnd,.int .i64 n.next.1,.int .u64 n.next.2],.string key] w fun e w'=>e=.returned (.tuple #[.agg #[.int .i64 h.1,.int .u64 h.2],.bool true])∧Below w.heap.size w w':=by
 have hR:=qh fun W hW=>nRight_ok n qka qva qha qkc qvc qhc W ho (hn.below n qka qva qha qkc qvc qhc hW) hsm
 have hC:=qh fun W=>nCovers_any n.leaf qka n.keys.length qkc qva n.vals.length qvc qha n.kids.length qhc n.high n.bnd n.next.1 n.next.2 key W
 rw [show (!n.bnd || slt key n.high)=true from hc] at hC
 have hF:=qh fun W (hW:Below w.heap.size w W)=>nFind_any n.leaf qka n.keys.length qkc qva n.vals.length qvc qha n.kids.length qhc n.high n.bnd n.next.1 n.next.2 n.keys key W (hn.1.below hW) rfl
 have hcc:=cutE_eq (k:=key) ho.rise
 rw [hcc] at hh
 have hcl:=cut_le key n.keys
 have hlt:=(List.getElem?_eq_some_iff.1 hh).1
 obtain ⟨b,o,rfl,hb,hle,hc63,hcell⟩:=hn.2.2.some (by omega)
 have g0:=hcell _ _ hh 0 _ rfl
 have g1:=hcell _ _ hh 1 _ rfl
 clear hcell hcc
 obtain ⟨lf,K,V,H,hi,bd,nx⟩:=n
 simp only at hl hR hC hF hh hcl hlt hsm hle g0 g1 ⊢
 subst hl
 clear ho hn hc hh
 generalize hasK key K=r at *
 generalize cut key K=m at *
 have hw1:IntKind.i64.wrap ((m:Int)+1)=(m:Int)+1:=IntWalk.i64_in _ (by omega)
 replace g0:=qh g0
 replace g1:=qh g1
 go_enter Tryz.func96,Tryz.ntmps96
 go_wp2_with fail
 refine (hR.out _ (below_two _ _ _)).mono ?_
 rintro e w1 ⟨rfl,hb1⟩
 obtain ⟨hbx,hby⟩:=heap_two w (.cells #[.bool false,.slice qka K.length qkc,.slice qva V.length qvc,.slice (some ⟨b,o,none⟩) H.length qhc,.string hi,.bool bd,.int .i64 nx.1,.int .u64 nx.2] 98) (.cells #[.int .i64 0,.int .u64 0] 71)
 replace hbx:=Below.heap' hb1 hbx
 replace hby:=Below.heap' hb1 hby
 have hB1:=(below_two w (.cells #[.bool false,.slice qka K.length qkc,.slice qva V.length qvc,.slice (some ⟨b,o,none⟩) H.length qhc,.string hi,.bool bd,.int .i64 nx.1,.int .u64 nx.2] 98) (.cells #[.int .i64 0,.int .u64 0] 71)).trans (hb1.mono (by simp;omega))
 clear hb1
 obtain ⟨c0,c1,c2,c3,c4,c5,c6,c7⟩:=node_cells _ _ _ _ _ _ _ _ _ _ _ _ _ _ hbx
 have hqs:=heap_lt hby
 go_wp2_with fail
 refine (hC.out _).mono ?_
 rintro e w2 ⟨rfl,hb2⟩
 replace hbx:=Below.heap' hb2 hbx
 replace hby:=Below.heap' hb2 hby
 have hB2:=hB1.trans (hb2.mono hB1.size)
 clear c0 c1 c2 c3 c4 c5 c6 c7 hb2 hB1 hqs
 obtain ⟨c0,c1,c2,c3,c4,c5,c6,c7⟩:=node_cells _ _ _ _ _ _ _ _ _ _ _ _ _ _ hbx
 have hqs:=heap_lt hby
 go_wp2_with fail
 refine (hF.out _ hB2).mono ?_
 rintro e w3 ⟨rfl,hb3⟩
 replace hbx:=Below.heap' hb3 hbx
 replace hby:=Below.heap' hb3 hby
 have hB3:=hB2.trans (hb3.mono hB2.size)
 clear c0 c1 c2 c3 c4 c5 c6 c7 hb3 hB2 hqs
 obtain ⟨c0,c1,c2,c3,c4,c5,c6,c7⟩:=node_cells _ _ _ _ _ _ _ _ _ _ _ _ _ _ hbx
 have d0:w3.cell? ⟨w.heap.size+1,0,none⟩=some (.int .i64 0):=by rw [cell_of_heap hby];rfl
 have d1:w3.cell? ⟨w.heap.size+1,1,none⟩=some (.int .u64 0):=by rw [cell_of_heap hby];rfl
 have f0:w3.frozen? ⟨w.heap.size+1,0,none⟩=false:=frozen_of_heap hby _
 have f1:w3.frozen? ⟨w.heap.size+1,1,none⟩=false:=frozen_of_heap hby _
 have hqs:=heap_lt hby
 have k0:=keep hB3 g0.out
 have k1:=keep hB3 g1.out
 replace hB3:=qh hB3
 cases r with
 | true =>
  simp only [if_true,Nat.add_zero] at hlt k0 k1;go_wp2_with fail;refine bodyPost_ret (v:=.tuple #[.agg #[.int .i64 h.1,.int .u64 h.2],.bool true]) (by simp [results,Tryz.results96,go_sem,d0,d1]) rfl ⟨rfl,?_⟩;exact (hB3.out.setCell (p:=⟨w.heap.size+1,0,none⟩) (by simp) _).setCell (p:=⟨w.heap.size+1,1,none⟩) (by simp) _
 | false =>
  simp only [Bool.false_eq_true,if_false,Nat.add_zero] at hlt k0 k1;go_wp2_with fail;refine bodyPost_ret (v:=.tuple #[.agg #[.int .i64 h.1,.int .u64 h.2],.bool true]) (by simp [results,Tryz.results96,go_sem,d0,d1]) rfl ⟨rfl,?_⟩;exact (hB3.out.setCell (p:=⟨w.heap.size+1,0,none⟩) (by simp) _).setCell (p:=⟨w.heap.size+1,1,none⟩) (by simp) _
open Go.RowKit
namespace ClStr
theorem info:∃ i0:TypeInfo,Tryz.prog.info? 9=some i0∧i0.zero=some (.string ⟨#[]⟩)∧i0.size=1∧i0.bytes=16:=info_parts (show (Tryz.prog.info? 9).map (fun i=>(i.zero,i.size,i.bytes))=some (some (.string ⟨#[]⟩),1,16) by kernel_rfl)
def CloneEnd {α:Type} (f:α→List Value) (base:Nat) (L:List α) (w:World) (x:Ending) (w':World):Prop :=
 ∃ a c,x=.returned (.slice a L.length c)∧Row base 9 1 f w' (.slice a L.length c) L∧Below w.heap.size w w'∧∀ b,(Value.slice a L.length c).ownBlock=some b→w.heap.size≤b
theorem clone_any {α : Type} (f : α → List Value) (hf : ∀ x, (f x).length = 1) (h1 : ∀ x, ∀ y ∈ f x, y.oneCell' = true) (base : Nat) (a : Option Addr) (c : Nat) (L : List α) (w : World) (h : SrcOf w (.slice a L.length c) L.length 1 (L.flatMap f))
    (hbase:base≤w.heap.size) (hlen:L.length≤1000000000):Calls Tryz.prog 148 #[.slice a L.length c] w (CloneEnd f base L w):=by
 have hq:=fun (w:World) (a:Option Addr) (n c n' c':Nat)=>Lib.run_eql_slice_nil (P:=Tryz.prog) w 96 _ a n c n' c' Tryz.underlying96
 cases a with
 | none =>
  have h0:L=[]:=by
   rcases h.2.2 with ⟨hh,_⟩ | ⟨ad,c',hh,_⟩
   ·injection hh with _ h2
    exact List.length_eq_zero_iff.1 h2
   ·cases hh
  subst h0
  have hc:c=0:=by
   rcases h.2.2 with ⟨hh,_⟩ | ⟨ad,c',hh,_⟩
   ·injection hh with _ _ h3
   ·cases hh
  subst hc;clear h
  go_enter Tryz.func148,Tryz.ntmps148
  go_wp2;go_ret;exact ⟨none,0,rfl,Row.nil hf h1 _ _ _,Below.refl _ _,by simp [Value.ownBlock]⟩
 | some ad =>
  obtain ⟨i0,hi0,hz0,hz1,hz2⟩:=info;have hB:Below w.heap.size w (w.alloc (.cells #[] 9)):=(Below.refl _ _).alloc (Nat.le_refl _) _;have hS:=h.below hB
  have hR:Row base 9 1 f (w.alloc (.cells #[] 9)) (.slice (some ⟨w.heap.size,0,none⟩) 0 0) ([]:List α) :=
   ⟨hf,h1,by simp,.inr ⟨w.heap.size,0,#[],rfl,hbase,heap_alloc_new w _,Nat.le_refl _,Nat.zero_le _,by simp,by simp⟩⟩
  have hbs:base≤(w.alloc (.cells #[] 9)).heap.size:=Nat.le_trans hbase hB.size;have hm:([]:List α).length+L.length≤maxLen:=by unfold maxLen;simp;omega
  have hby:(([]:List α).length+L.length)*16≤140737488355328:=by simp;omega
  replace hS:=qh hS;replace hR:=qh hR;replace hbs:=qh hbs;replace hB:=qh hB;replace hm:=qh hm
  replace hby:=qh hby;clear h
  go_enter Tryz.func148,Tryz.ntmps148
  go_wp2_with (at_builtin;refine wpList_append_row (f:=f) (M:=L) _ rfl _ _ 96 rfl base 9 i0 (.string ⟨#[]⟩) 1 16 Tryz.underlying96 hi0 hz0 hz1 hz2 rfl (by decide) (.slice (some ⟨w.heap.size,0,none⟩) 0 0) [] rfl hR.out (.slice (some ad) L.length c) rfl hS.out hm.out hby.out hbs.out ?_;intro a' c' w1 hrow hu hat;simp only [List.length_nil,Nat.zero_add,List.nil_append] at hrow hu hat ⊢;replace hrow:=qh hrow;replace hu:=qh hu;replace hat:=qh hat)
  go_ret;refine ⟨a',c',rfl,hrow.out,hB.out.trans (hu.out.below (by simp) (by simp [Value.ownBlock])),fun b hb=>?_⟩;rcases hat.out with hh | hh
  ·rw [hh] at hb;simp [Value.ownBlock] at hb;omega
  ·rw [hh] at hb;simp at hb;omega
end ClStr
open Go.RowKit
namespace ClHd
theorem info:∃ i0:TypeInfo,Tryz.prog.info? 71=some i0∧i0.zero=some (.agg #[.int .i64 0,.int .u64 0])∧i0.size=2∧i0.bytes=16:=info_parts (show (Tryz.prog.info? 71).map (fun i=>(i.zero,i.size,i.bytes))=some (some (.agg #[.int .i64 0,.int .u64 0]),2,16) by kernel_rfl)
def CloneEnd {α:Type} (f:α→List Value) (base:Nat) (L:List α) (w:World) (x:Ending) (w':World):Prop :=
 ∃ a c,x=.returned (.slice a L.length c)∧Row base 71 2 f w' (.slice a L.length c) L∧Below w.heap.size w w'∧∀ b,(Value.slice a L.length c).ownBlock=some b→w.heap.size≤b
theorem clone_any {α : Type} (f : α → List Value) (hf : ∀ x, (f x).length = 2) (h1 : ∀ x, ∀ y ∈ f x, y.oneCell' = true) (base : Nat) (a : Option Addr) (c : Nat) (L : List α) (w : World) (h : SrcOf w (.slice a L.length c) L.length 2 (L.flatMap f))
    (hbase:base≤w.heap.size) (hlen:L.length≤1000000000):Calls Tryz.prog 149 #[.slice a L.length c] w (CloneEnd f base L w):=by
 have hq:=fun (w:World) (a:Option Addr) (n c n' c':Nat)=>Lib.run_eql_slice_nil (P:=Tryz.prog) w 77 _ a n c n' c' Tryz.underlying77
 cases a with
 | none =>
  have h0:L=[]:=by
   rcases h.2.2 with ⟨hh,_⟩ | ⟨ad,c',hh,_⟩
   ·injection hh with _ h2
    exact List.length_eq_zero_iff.1 h2
   ·cases hh
  subst h0
  have hc:c=0:=by
   rcases h.2.2 with ⟨hh,_⟩ | ⟨ad,c',hh,_⟩
   ·injection hh with _ _ h3
   ·cases hh
  subst hc;clear h
  go_enter Tryz.func149,Tryz.ntmps149
  go_wp2;go_ret;exact ⟨none,0,rfl,Row.nil hf h1 _ _ _,Below.refl _ _,by simp [Value.ownBlock]⟩
 | some ad =>
  obtain ⟨i0,hi0,hz0,hz1,hz2⟩:=info;have hB:Below w.heap.size w (w.alloc (.cells #[] 71)):=(Below.refl _ _).alloc (Nat.le_refl _) _;have hS:=h.below hB
  have hR:Row base 71 2 f (w.alloc (.cells #[] 71)) (.slice (some ⟨w.heap.size,0,none⟩) 0 0) ([]:List α) :=
   ⟨hf,h1,by simp,.inr ⟨w.heap.size,0,#[],rfl,hbase,heap_alloc_new w _,Nat.le_refl _,Nat.zero_le _,by simp,by simp⟩⟩
  have hbs:base≤(w.alloc (.cells #[] 71)).heap.size:=Nat.le_trans hbase hB.size;have hm:([]:List α).length+L.length≤maxLen:=by unfold maxLen;simp;omega
  have hby:(([]:List α).length+L.length)*16≤140737488355328:=by simp;omega
  replace hS:=qh hS;replace hR:=qh hR;replace hbs:=qh hbs;replace hB:=qh hB;replace hm:=qh hm
  replace hby:=qh hby;clear h
  go_enter Tryz.func149,Tryz.ntmps149
  go_wp2_with (at_builtin;refine wpList_append_row (f:=f) (M:=L) _ rfl _ _ 77 rfl base 71 i0 (.agg #[.int .i64 0,.int .u64 0]) 2 16 Tryz.underlying77 hi0 hz0 hz1 hz2 rfl (by decide) (.slice (some ⟨w.heap.size,0,none⟩) 0 0) [] rfl hR.out (.slice (some ad) L.length c) rfl hS.out hm.out hby.out hbs.out ?_;intro a' c' w1 hrow hu hat;simp only [List.length_nil,Nat.zero_add,List.nil_append] at hrow hu hat ⊢;replace hrow:=qh hrow;replace hu:=qh hu;replace hat:=qh hat)
  go_ret;refine ⟨a',c',rfl,hrow.out,hB.out.trans (hu.out.below (by simp) (by simp [Value.ownBlock])),fun b hb=>?_⟩;rcases hat.out with hh | hh
  ·rw [hh] at hb;simp [Value.ownBlock] at hb;omega
  ·rw [hh] at hb;simp at hb;omega
end ClHd
open Go.RowKit
section
variable {α:Type} {w:World} {k:Nat} {f:α→List Value} {a:Option Addr} {c:Nat} {L:List α}
theorem flat_inv (hf:∀ x,(f x).length=k) (hk:0 < k) {t:Nat} {y:Value} (h:(L.flatMap f)[t]?=some y):∃ x,L[t / k]?=some x∧(f x)[t % k]?=some y:=by
 have hlt:=(List.getElem?_eq_some_iff.1 h).1
 rw [flat_len hf] at hlt
 have hq:t / k < L.length:=by rw [Nat.div_lt_iff_lt_mul hk];exact hlt
 have hr:t % k < k:=Nat.mod_lt _ hk
 refine ⟨L[t / k],List.getElem?_eq_getElem hq,?_⟩
 have h3:=flat_get hf L (t / k) _ (List.getElem?_eq_getElem hq) (t % k) _ (List.getElem?_eq_getElem (by rw [hf];exact hr))
 rw [show t / k*k+t % k=t by rw [Nat.mul_comm];exact Nat.div_add_mod t k,h] at h3
 rw [List.getElem?_eq_getElem (by rw [hf];exact hr)]
 exact h3.symm
theorem At.src (h:At w k f a c L) (hf:∀ x,(f x).length=k) (h1:∀ x,∀ y∈f x,y.oneCell'=true) (hk:0 < k):SrcOf w (.slice a L.length c) L.length k (L.flatMap f):=by
 refine ⟨flat_len hf L,flat_one h1 L,?_⟩
 obtain ⟨q1,q2,⟨rfl,rfl⟩ | ⟨b,o,rfl,q3,q4⟩⟩:=h
 ·have:L.length=0:=by omega
  exact .inl ⟨by rw [this],this⟩
 ·refine .inr ⟨_,_,rfl,fun j y hj=>?_⟩
  obtain ⟨x,h2,h3⟩:=flat_inv hf hk hj;have:=q4 _ _ h2 _ _ h3;rw [Addr.add_lit]
  rwa [show o+j / k*k+j % k=o+j by rw [Nat.add_assoc];congr 1;rw [Nat.mul_comm];exact Nat.div_add_mod j k] at this
theorem Row.at' {base:Nat} {e:TypeId} (h:Row base e k f w (.slice a L.length c) L):At w k f a c L:=by
 rcases h.cases with ⟨h1,rfl⟩ | ⟨b,cap,h1,h2,h3,h4,h5,h6,h7,_⟩
 ·injection h1 with h1 _ h3
  exact ⟨Nat.zero_le _,by omega,.inl ⟨h1,h3⟩⟩
 ·injection h1 with h1 _ h3
  subst h1 h3;refine ⟨h5,by unfold maxLen at h6;omega,.inr ⟨b,0,rfl,fun _=>h3,fun i x hx j y hy=>?_⟩⟩;rw [Nat.zero_add];exact h7 _ _ (flat_get h.1 L i x hx j y hy)
end
theorem scell_len (x:Str):(scell x).length=1:=rfl
theorem scell_one (x:Str):∀ y∈scell x,y.oneCell'=true:=by intro y hy;simp [scell] at hy;subst hy;rfl
theorem hcel_len (x:Hd):(hcel x).length=2:=rfl
theorem hcel_one (x:Hd):∀ y∈hcel x,y.oneCell'=true:=by intro y hy;simp [hcel] at hy;rcases hy with rfl | rfl <;> rfl
structure OwnNode (base:Nat) (w:World) (n:BN) (qka qva qha:Option Addr) (qkc qvc qhc:Nat):Prop where
 ky:Row base 9 1 scell w (.slice qka n.keys.length qkc) n.keys
 vl:Row base 9 1 scell w (.slice qva n.vals.length qvc) n.vals
 kd:Row base 71 2 hcel w (.slice qha n.kids.length qhc) n.kids
 kv:∀ x y,(Value.slice qka n.keys.length qkc).ownBlock=some x→(Value.slice qva n.vals.length qvc).ownBlock=some y→x≠y
 kh:∀ x y,(Value.slice qka n.keys.length qkc).ownBlock=some x→(Value.slice qha n.kids.length qhc).ownBlock=some y→x≠y
 vh:∀ x y,(Value.slice qva n.vals.length qvc).ownBlock=some x→(Value.slice qha n.kids.length qhc).ownBlock=some y→x≠y
theorem OwnNode.at {base:Nat} {w:World} (n:BN) (qka qva qha:Option Addr) (qkc qvc qhc:Nat) (h:OwnNode base w n qka qva qha qkc qvc qhc):NodeAt w n qka qva qha qkc qvc qhc:=⟨h.ky.at',h.vl.at',h.kd.at'⟩
def CloneN (n:BN) (w:World) (x:Ending) (w':World):Prop :=
 ∃ qka qva qha qkc qvc qhc,x=.returned (.agg #[.bool n.leaf,.slice qka n.keys.length qkc,.slice qva n.vals.length qvc,.slice qha n.kids.length qhc,.string n.high,.bool n.bnd,.int .i64 n.next.1,.int .u64 n.next.2])∧OwnNode w.heap.size w' n qka qva qha qkc qvc qhc∧Below w.heap.size w w'
theorem nClone_ok (n:BN) (qka qva qha:Option Addr) (qkc qvc qhc:Nat) (w:World) (hn:NodeAt w n qka qva qha qkc qvc qhc) (hsm:n.keys.length≤1000∧n.vals.length≤1000∧n.kids.length≤1001):Calls Tryz.prog 121 #[.agg #[.bool n.leaf,.slice qka n.keys.length qkc,.slice qva n.vals.length qvc,.slice qha n.kids.length qhc,.string n.high,.bool n.bnd,.int .i64 n.next.1,.int .u64 n.next.2]] w (CloneN n w):=by
 have c1:=qh fun W (hW:Below w.heap.size w W)=>ClStr.clone_any scell scell_len scell_one W.heap.size qka qkc n.keys W ((hn.1.below hW).src scell_len scell_one (by decide)) (Nat.le_refl _) (by omega)
 have c2:=qh fun W (hW:Below w.heap.size w W)=>ClStr.clone_any scell scell_len scell_one W.heap.size qva qvc n.vals W ((hn.2.1.below hW).src scell_len scell_one (by decide)) (Nat.le_refl _) (by omega)
 have c3:=qh fun W (hW:Below w.heap.size w W)=>ClHd.clone_any hcel hcel_len hcel_one W.heap.size qha qhc n.kids W ((hn.2.2.below hW).src hcel_len hcel_one (by decide)) (Nat.le_refl _) (by omega)
 obtain ⟨lf,K,V,H,hi,bd,nx⟩:=n
 simp only at c1 c2 c3 ⊢
 clear hn hsm
 obtain ⟨v,hv⟩:∃ v,v=((w.alloc (.cells #[.bool lf,.slice qka K.length qkc,.slice qva V.length qvc,.slice qha H.length qhc,.string hi,.bool bd,.int .i64 nx.1,.int .u64 nx.2] 98)).alloc (.cells #[.bool false,.slice none 0 0,.slice none 0 0,.slice none 0 0,.string ⟨#[]⟩,.bool false,.int .i64 0,.int .u64 0] 98)):=⟨_,rfl⟩
 have hB:=below_two w (.cells #[.bool lf,.slice qka K.length qkc,.slice qva V.length qvc,.slice qha H.length qhc,.string hi,.bool bd,.int .i64 nx.1,.int .u64 nx.2] 98) (.cells #[.bool false,.slice none 0 0,.slice none 0 0,.slice none 0 0,.string ⟨#[]⟩,.bool false,.int .i64 0,.int .u64 0] 98)
 obtain ⟨hbx,hby⟩:=heap_two w (.cells #[.bool lf,.slice qka K.length qkc,.slice qva V.length qvc,.slice qha H.length qhc,.string hi,.bool bd,.int .i64 nx.1,.int .u64 nx.2] 98) (.cells #[.bool false,.slice none 0 0,.slice none 0 0,.slice none 0 0,.string ⟨#[]⟩,.bool false,.int .i64 0,.int .u64 0] 98)
 rw [← hv] at hB hbx hby
 have hvs:v.heap.size=w.heap.size+2:=by rw [hv];simp
 replace hv:=qh hv
 replace hbx:=qh hbx
 replace hby:=qh hby
 replace hB:=qh hB
 replace hvs:=qh hvs
 go_enter Tryz.func121,Tryz.ntmps121
 go_wp2_with fail
 rw [show ((w.alloc (.cells #[.bool lf,.slice qka K.length qkc,.slice qva V.length qvc,.slice qha H.length qhc,.string hi,.bool bd,.int .i64 nx.1,.int .u64 nx.2] 98)).alloc (.cells #[.bool false,.slice none 0 0,.slice none 0 0,.slice none 0 0,.string ⟨#[]⟩,.bool false,.int .i64 0,.int .u64 0] 98))=v from hv.out.symm]
 clear hv
 refine (c1.out v hB.out).mono ?_
 rintro e w1 ⟨ka,kc,rfl,r1,b1,o1⟩
 have hbx1:=Below.heap' b1 hbx.out
 have hby1:=Below.heap' b1 hby.out
 have hB1:=hB.out.trans (b1.mono hB.out.size)
 have hs1:=b1.size
 obtain ⟨d0,d1,d2,d3,d4,d5,d6,d7⟩:=node_cells _ _ _ _ _ _ _ _ _ _ _ _ _ _ hbx1
 have f1:w1.frozen? ⟨w.heap.size,1,none⟩=false:=frozen_of_heap hbx1 _
 replace r1:=qh r1
 replace b1:=qh b1
 replace o1:=qh o1
 replace hbx1:=qh hbx1
 replace hby1:=qh hby1
 replace hB1:=qh hB1
 clear hbx hby c1
 go_wp2_with fail
 obtain ⟨w2,hw2⟩:∃ w2,w2=w1.setCell ⟨w.heap.size,1,none⟩ (.slice ka K.length kc):=⟨_,rfl⟩
 rw [← hw2]
 have hbx2:w2.heap[w.heap.size]?=some (.cells #[.bool lf,.slice ka K.length kc,.slice qva V.length qvc,.slice qha H.length qhc,.string hi,.bool bd,.int .i64 nx.1,.int .u64 nx.2] 98):=by rw [hw2];exact heap_set_same hbx1.out 1 _
 have hU2:Upd [w.heap.size] w1 w2:=by rw [hw2];exact (Upd.refl _ _).setCell (by simp) _
 have hby2:=hU2.heap hby1.out (by simp)
 have hB2:Below w.heap.size w w2:=hB1.out.trans (hU2.below hB1.out.size (by simp))
 have r2:=r1.out.upd hU2 (fun b hb=>by have:=o1.out b hb;have:=hvs.out;simp;omega)
 clear hw2 d0 d1 d2 d3 d4 d5 d6 d7 f1
 refine (c2.out w2 hB2).mono ?_
 rintro e w3 ⟨va,vc,rfl,r3,b3,o3⟩
 have hbx3:=Below.heap' b3 hbx2
 have hby3:=Below.heap' b3 hby2
 have hB3:=hB2.trans (b3.mono hB2.size)
 have r4:=r2.below b3
 obtain ⟨d0,d1,d2,d3,d4,d5,d6,d7⟩:=node_cells _ _ _ _ _ _ _ _ _ _ _ _ _ _ hbx3
 have f1:w3.frozen? ⟨w.heap.size,2,none⟩=false:=frozen_of_heap hbx3 _
 have hz2:=hU2.size
 have hz3:=b3.size
 have l1:=fun b hb=>(r2.lt b hb).2
 replace r3:=qh r3
 replace b3:=qh b3
 replace o3:=qh o3
 replace hbx3:=qh hbx3
 replace hby3:=qh hby3
 replace hB3:=qh hB3
 replace r4:=qh r4
 replace hz2:=qh hz2
 replace hz3:=qh hz3
 replace l1:=qh l1
 replace hs1:=qh hs1
 clear hbx1 hby1 hbx2 hby2 hB2 hU2 r1 r2 hB1 hB c2 b1
 go_wp2_with fail
 obtain ⟨w4,hw4⟩:∃ w4,w4=w3.setCell ⟨w.heap.size,2,none⟩ (.slice va V.length vc):=⟨_,rfl⟩
 rw [← hw4]
 have hbx4:w4.heap[w.heap.size]?=some (.cells #[.bool lf,.slice ka K.length kc,.slice va V.length vc,.slice qha H.length qhc,.string hi,.bool bd,.int .i64 nx.1,.int .u64 nx.2] 98):=by rw [hw4];exact heap_set_same hbx3.out 2 _
 have hU4:Upd [w.heap.size] w3 w4:=by rw [hw4];exact (Upd.refl _ _).setCell (by simp) _
 have hby4:=hU4.heap hby3.out (by simp)
 have hB4:Below w.heap.size w w4:=hB3.out.trans (hU4.below hB3.out.size (by simp))
 have r5:=r4.out.upd hU4 (fun b hb=>by have:=o1.out b hb;have:=hvs.out;simp;omega)
 have r6:=r3.out.upd hU4 (fun b hb=>by have:=o3.out b hb;have:=hvs.out;have:=hs1.out;have:=hz2.out;simp;omega)
 clear hw4 d0 d1 d2 d3 d4 d5 d6 d7 f1
 refine (c3.out w4 hB4).mono ?_
 rintro e w5 ⟨ha,hc,rfl,r7,b5,o5⟩
 have hbx5:=Below.heap' b5 hbx4
 have hby5:=Below.heap' b5 hby4
 have hB5:=hB4.trans (b5.mono hB4.size)
 have r8:=r5.below b5
 have r9:=r6.below b5
 obtain ⟨d0,d1,d2,d3,d4,d5,d6,d7⟩:=node_cells _ _ _ _ _ _ _ _ _ _ _ _ _ _ hbx5
 obtain ⟨x0,x1,x2,x3,x4,x5,x6,x7⟩:=node_cells _ _ _ _ _ _ _ _ _ _ _ _ _ _ hby5
 have f1:w5.frozen? ⟨w.heap.size,3,none⟩=false:=frozen_of_heap hbx5 _
 have y0:w5.frozen? ⟨w.heap.size+1,0,none⟩=false:=frozen_of_heap hby5 _
 have y1:w5.frozen? ⟨w.heap.size+1,1,none⟩=false:=frozen_of_heap hby5 _
 have y2:w5.frozen? ⟨w.heap.size+1,2,none⟩=false:=frozen_of_heap hby5 _
 have y3:w5.frozen? ⟨w.heap.size+1,3,none⟩=false:=frozen_of_heap hby5 _
 have y4:w5.frozen? ⟨w.heap.size+1,4,none⟩=false:=frozen_of_heap hby5 _
 have y5:w5.frozen? ⟨w.heap.size+1,5,none⟩=false:=frozen_of_heap hby5 _
 have y6:w5.frozen? ⟨w.heap.size+1,6,none⟩=false:=frozen_of_heap hby5 _
 have y7:w5.frozen? ⟨w.heap.size+1,7,none⟩=false:=frozen_of_heap hby5 _
 have hz4:=hU4.size
 have hz5:=b5.size
 have l2:=fun b hb=>(r6.lt b hb).2
 replace r7:=qh r7
 replace o5:=qh o5
 replace hbx5:=qh hbx5
 replace hby5:=qh hby5
 replace hB5:=qh hB5
 replace r8:=qh r8
 replace r9:=qh r9
 replace hz4:=qh hz4
 replace hz5:=qh hz5
 replace l2:=qh l2
 clear hbx3 hby3 hbx4 hby4 hB4 hU4 r3 r4 r5 r6 hB3 c3 b3 b5
 go_wp2_with fail
 refine bodyPost_ret (v:=.agg #[.bool lf,.slice ka K.length kc,.slice va V.length vc,.slice ha H.length hc,.string hi,.bool bd,.int .i64 nx.1,.int .u64 nx.2]) (by simp [results,Tryz.results121,go_sem,x0,x1,x2,x3,x4,x5,x6,x7]) rfl ?_
 have hU:∀ W,Upd [w.heap.size,w.heap.size+1] w5 W→CloneN ⟨lf,K,V,H,hi,bd,nx⟩ w (.returned (.agg #[.bool lf,.slice ka K.length kc,.slice va V.length vc,.slice ha H.length hc,.string hi,.bool bd,.int .i64 nx.1,.int .u64 nx.2])) W:=fun W hU=>by
  have hv:=hvs.out;have q1:=hs1.out;have q2:=hz2.out;have q3:=hz3.out;have q4:=hz4.out;have q5:=hz5.out;refine ⟨ka,va,ha,kc,vc,hc,rfl,⟨?_,?_,?_,?_,?_,?_⟩,hB5.out.trans (hU.below hB5.out.size (by simp))⟩
  ·refine (r8.out.upd hU (fun b hb=>?_)).rebase (fun b hb=>?_)
   ·have:=o1.out b hb;simp;omega
   ·have:=o1.out b hb;omega
  ·refine (r9.out.upd hU (fun b hb=>?_)).rebase (fun b hb=>?_)
   ·have:=o3.out b hb;simp;omega
   ·have:=o3.out b hb;omega
  ·refine (r7.out.upd hU (fun b hb=>?_)).rebase (fun b hb=>?_)
   ·have:=o5.out b hb;simp;omega
   ·have:=o5.out b hb;omega
  ·intro x y hx hy
   have:=l1.out x hx;have:=o3.out y hy;omega
  ·intro x y hx hy
   have:=l1.out x hx;have:=o5.out y hy;omega
  ·intro x y hx hy
   have:=l2.out x hx;have:=o5.out y hy;omega
 refine hU _ ?_
 repeat refine Upd.setCell ?_ (by simp) _
 exact Upd.refl _ _
open Go.RowKit
variable {P:Program}
theorem run_copy_rowk (w : World) (dT sT ty elem : TypeId) (k g o dLen dCap : Nat) (a : Addr) (sLen sCap : Nat) (cur : Array Value) (t : TypeId) (cs : List Value)
    (hu:P.underlying dT=some (.slice elem)) (hs:(P.info? elem).map (·.size)=some k) (hg:w.heap[g]?=some (.cells cur t (0,0))) (hn:cs.length=Nat.min sLen dLen*k)
    (hsrc:∀ j v,cs[j]?=some v→w.cell? (a.add j)=some v) (hfit:o+cs.length≤cur.size) (h1:∀ v∈cs,v.oneCell'=true) :
    (Builtin.copy_ #[dT,sT] ty #[.slice (some ⟨g,o,none⟩) dLen dCap,.slice (some a) sLen sCap]).run P w =
     .ok (goInt (Nat.min sLen dLen)) (w.setRow g (cur.toList.take o++cs++cur.toList.drop (o+cs.length)).toArray):=by
 have hl:=run_loadCells_list (P:=P) w a cs hsrc
 have hst:=run_storeCells_at P g o t cs 0 cur w hg (by simpa using hfit) h1
 cases hq:P.info? elem with
 | none=>simp [hq] at hs
 | some i =>
  have hi:i.size=k:=by simpa [hq] using hs
  simp only [Builtin.copy_,Builtin.lenOf,Builtin.firstCells,sizeOf,typeInfo];simp [run_underlying hu,hq,hi,← hn,hl,hst]
theorem Upd.setRow {S:List Nat} {a w:World} (h:Upd S a w) {g:Nat} (hg:g∈S) (cs:Array Value):Upd S a (w.setRow g cs) :=
 h.trans ⟨rfl,rfl,rfl,by simp,fun k _ hn=>setRow_other _ _ _ _ (fun e=>hn (by rw [e];exact hg))⟩
theorem Upd.setRowNew {S:List Nat} {a w:World} (h:Upd S a w) {g:Nat} (hg:a.heap.size≤g) (cs:Array Value):Upd S a (w.setRow g cs) :=
 ⟨h.os,h.tape,h.output,by simp;exact h.size,fun k hk hn=>by rw [setRow_other _ _ _ _ (by omega)];exact h.block k hk hn⟩
theorem step_copy_is {ops : Array Oper} {o : Oper} {a : Act} {w : World} {K : Act → World → Prop} {Q : Exit → Act → World → Prop} {E : Prop} (hgd : o.guard = none) (d s : Operand) (t t' : TypeId)
    (ho:o.op=.call { callee:=.builtin .copy,args:=#[d,s],argTypes:=#[t,t'] }) (v u:Value) (hd:a.eval d=v) (hs:a.eval s=u) {v':Value} {w':World}
    (hr:(Builtin.copy_ #[t,t'] o.type #[v,u]).run P w=.ok v' w') (h:K (a.put o.dst v') w'):if Region.wanted o (yielded ops a.tmps)=true then Oper.wp P o a w K Q else E:=by
 have hw:Region.wanted o (yielded ops a.tmps)=true:=by simp [Region.wanted,hgd]
 rw [if_pos hw]
 unfold Oper.wp execOp
 simp only [ho,resolve,invoke,builtin,Sem.run_bind,Sem.run_pure,Result.andThen_ok,List.map_toArray,List.map_cons,List.map_nil,hd,hs,hr]
 exact h
theorem shape_of_heap {w:World} {b:Nat} {c:Array Value} {t:TypeId} {fr:Nat×Nat} (h:w.heap[b]?=some (.cells c t fr)):w.shape? b=some (t,c.size):=by
 unfold World.shape?
 rw [h]
theorem insert_flat {α:Type} {f:α→List Value} (L:List α) (x:α) (i:Nat) (hi:i≤L.length):(L.insertIdx i x).flatMap f=(L.take i).flatMap f++(f x++(L.drop i).flatMap f):=by
 rw [show L.insertIdx i x=L.take i++x::L.drop i from by
  induction L generalizing i with
  | nil=>simp at hi;subst hi;simp
  | cons y L ih =>
   cases i with
   | zero=>simp
   | succ i=>rw [List.insertIdx_succ_cons,ih i (by simpa using hi)];simp]
 simp
theorem shift_lists {C Fa Fb X : List Value} {n a1 a2 k : Nat} (hC : C.take n = Fa ++ Fb) (ha : Fa.length = a1) (hb : Fb.length = n - a1) (hx : X.length = k) (h2 : a2 = a1 + k) (hn : a1 ≤ n) (hsz : n + k ≤ C.length) :
    ((C.take a2++Fb++C.drop (a2+Fb.length)).take a1++X++(C.take a2++Fb++C.drop (a2+Fb.length)).drop (a1+X.length)).take (n+k)=Fa++(X++Fb):=by
 have h3:(C.take a2).length=a2:=by rw [List.length_take];omega
 have h4:(C.take a2++Fb++C.drop (a2+Fb.length)).take a1=Fa:=by
  rw [List.append_assoc,List.take_append_of_le_length (by omega),List.take_take,Nat.min_eq_left (by omega)];have:C.take a1=(C.take n).take a1:=by rw [List.take_take,Nat.min_eq_left hn]
  rw [this,hC,List.take_append_of_le_length (by omega),List.take_of_length_le (by omega)]
 have h5:(C.take a2++Fb++C.drop (a2+Fb.length)).drop (a1+X.length)=Fb++C.drop (a2+Fb.length):=by
  rw [List.append_assoc,hx,← h2];have:=List.drop_left' (l₂:=Fb++C.drop (a2+Fb.length)) h3;exact this
 rw [h4,h5,show n+k=(Fa++X++Fb).length by simp only [List.length_append];omega,← List.append_assoc (Fa++X),List.take_left]
 simp
theorem grow_lists {R Fa Fb X : List Value} {n a1 a2 k : Nat} (hR : R.take a1 = Fa) (ha : Fa.length = a1) (hb : Fb.length = n - a1) (hx : X.length = k) (h2 : a2 = a1 + k) (hn : a1 ≤ n) :
    (((R.take a1++X++R.drop (a1+X.length)).take a2++Fb++(R.take a1++X++R.drop (a1+X.length)).drop (a2+Fb.length)).take (n+k))=Fa++(X++Fb):=by
 rw [hR]
 have h3:(Fa++X++R.drop (a1+X.length)).take a2=Fa++X:=by
  rw [List.take_append_of_le_length (by simp only [List.length_append];omega),List.take_of_length_le (by simp only [List.length_append];omega)]
 rw [h3,show n+k=(Fa++X++Fb).length by simp only [List.length_append];omega,List.take_left]
 simp
theorem heap_setCells {b : Nat} {t : TypeId} : ∀ (vs : List Value) (o : Nat) (cur : Array Value) (w : World), w.heap[b]? = some (.cells cur t) → o + vs.length ≤ cur.size →
    (w.setCells b o vs).heap[b]?=some (.cells (cur.toList.take o++vs++cur.toList.drop (o+vs.length)).toArray t)
 | [],o,cur,w,h,_=>by
  show w.heap[b]?=_
  rw [h];simp
 | v::vs,o,cur,w,h,hs=>by
  have h1:=heap_set_same h o v;have ih:=heap_setCells vs (o+1) (cur.setIfInBounds o v) (w.setCell ⟨b,o,none⟩ v) h1 (by simp at hs ⊢;omega)
  show ((w.setCell ⟨b,o,none⟩ v).setCells b (o+1) vs).heap[b]?=_
  rw [ih];have e:=list_seg_step cur.toList o v vs (by simp at hs ⊢;omega);simp only [Array.toList_setIfInBounds]
  have e2:(cur.toList.set o v).take (o+1)++vs++(cur.toList.set o v).drop (o+1+vs.length)=cur.toList.take o++v::vs++cur.toList.drop (o+(v::vs).length):=by
   simpa [Nat.add_assoc] using e
  rw [e2]
theorem Upd.setCells {S:List Nat} {b:Nat} (hb:b∈S):∀ (vs:List Value) (o:Nat) {a w:World},Upd S a w→Upd S a (w.setCells b o vs)
 | [],_,_,_,h=>h
 | v::vs,o,_,_,h=>Upd.setCells hb vs (o+1) (h.setCell (p:=⟨b,o,none⟩) hb v)
open Go.RowKit
namespace InStr
theorem info:∃ i0:TypeInfo,Tryz.prog.info? 9=some i0∧i0.zero=some (.string ⟨#[]⟩)∧i0.size=1∧i0.bytes=16:=info_parts (show (Tryz.prog.info? 9).map (fun i=>(i.zero,i.size,i.bytes))=some (some (.string ⟨#[]⟩),1,16) by kernel_rfl)
theorem size_is:(Tryz.prog.info? 9).map (·.size)=some 1:=by kernel_rfl
def InsEnd {α:Type} (f:α→List Value) (base:Nat) (v:Value) (L:List α) (w:World) (x:Ending) (w':World):Prop :=
 ∃ a c,x=.returned (.slice a L.length c)∧Row base 9 1 f w' (.slice a L.length c) L∧Upd v.ownBlock.toList w w'∧((Value.slice a L.length c).ownBlock=v.ownBlock∨(Value.slice a L.length c).ownBlock=some w.heap.size)
variable {α:Type} (f:α→List Value) (base:Nat) (a:Option Addr) (c:Nat) (L:List α) (x:α) (vb:Nat) (w:World)
set_option maxRecDepth 100000 in
theorem insert_end (h : Row base 9 1 f w (.slice a L.length c) L) (hv : w.heap[vb]? = some (.cells (f x).toArray 9)) (hbase : base ≤ w.heap.size) (hlen : L.length ≤ 100000) :
    Calls Tryz.prog 123 #[.slice a L.length c,.int .i64 L.length,.slice (some ⟨vb,0,none⟩) 1 1] w (InsEnd f base (.slice a L.length c) (L++[x]) w):=by
 obtain ⟨i0,hi0,hz0,hz1,hz2⟩:=info
 have hcl:(L.length:Int)≤9223372036854775807:=by omega
 have hS:SrcOf w (.slice (some ⟨vb,0,none⟩) 1 1) [x].length 1 ([x].flatMap f):=by
  refine ⟨by simp [h.1],by simpa using h.2.1 x,.inr ⟨_,_,rfl,fun j y hj=>?_⟩⟩;rw [Addr.add_lit,Nat.zero_add,cell_of_heap hv];simpa using hj
 have hm:L.length+[x].length≤maxLen:=by unfold maxLen;simp;omega
 have hby:(L.length+[x].length)*16≤140737488355328:=by simp;omega
 have hc0:L.length≤c:=by
  rcases h.cases with ⟨h1,rfl⟩ | ⟨b,cap,h1,_,_,_,h5,_⟩
  ·exact Nat.zero_le _
  ·injection h1 with _ _ h3
   omega
 have hc63:c≤9223372036854775807:=by
  rcases h.cases with ⟨h1,rfl⟩ | ⟨b,cap,h1,_,_,_,h5,h6,_⟩
  ·injection h1 with _ _ h3
   omega
  ·injection h1 with _ _ h3
   unfold maxLen at h6;omega
 replace hS:=qh hS
 replace h:=qh h
 replace hm:=qh hm
 replace hby:=qh hby
 replace hbase:=qh hbase
 go_enter Tryz.func123,Tryz.ntmps123
 go_wp2_with (at_builtin;refine wpList_append_row (f:=f) (M:=[x]) _ rfl _ _ 96 rfl base 9 i0 (.string ⟨#[]⟩) 1 16 Tryz.underlying96 hi0 hz0 hz1 hz2 rfl (by decide) (.slice a L.length c) L rfl h.out (.slice (some ⟨vb,0,none⟩) 1 1) rfl hS.out hm.out hby.out hbase.out ?_;intro a' c' w1 hrow hu hat;replace hrow:=qh hrow;replace hu:=qh hu;replace hat:=qh hat)
 all_goals
  go_ret
  try (have hcc : c = L.length := by assumption
       subst hcc)
  have hrow':=hrow.out;have hu':=hu.out;have hat':=hat.out;simp only [List.length_singleton] at hrow' hat';refine ⟨a',c',?_,?_,hu',?_⟩
  ·simp
  ·simpa using hrow'
  ·simpa using hat'
set_option maxRecDepth 100000 in
theorem insert_room (h : Row base 9 1 f w (.slice a L.length c) L) (hv : w.heap[vb]? = some (.cells (f x).toArray 9)) (hlen : L.length ≤ 100000) (i : Nat) (hi : i < L.length) (hroom : L.length + 1 ≤ c)
    (hne:∀ b,(Value.slice a L.length c).ownBlock=some b→b≠vb) :
    Calls Tryz.prog 123 #[.slice a L.length c,.int .i64 i,.slice (some ⟨vb,0,none⟩) 1 1] w (InsEnd f base (.slice a L.length c) (L.insertIdx i x) w):=by
 obtain ⟨hf,h1,hl0,⟨e,e2⟩ | ⟨g,cap,cur,e,q1,q2,q3,q4,q5,q6⟩⟩:=h
 ·omega
 injection e with e _ e3
 subst e e3
 have hgv:g≠vb:=hne g rfl
 have hgl:=heap_lt q2
 have hfx:=hf x
 have hF:=flat_len hf L
 have hFb:((L.drop i).flatMap f).length=(L.length - i)*1:=by rw [flat_len hf,List.length_drop]
 have hcap63:c≤9223372036854775807:=by unfold maxLen at q4;omega
 have hsz:cur.size=c*1:=q5
 have hparts:L.flatMap f=(L.take i).flatMap f++(L.drop i).flatMap f:=by rw [← List.flatMap_append,List.take_append_drop]
 have hFa:((L.take i).flatMap f).length=i*1:=by rw [flat_len hf,List.length_take,Nat.min_eq_left (by omega)]
 have hcurget:∀ j y,j < L.length*1→(L.flatMap f)[j]?=some y→cur[j]?=some y:=fun j y hj hy=>by
  rw [← q6] at hy;rw [List.getElem?_take,if_pos hj] at hy;simpa using hy
 obtain ⟨cur1,hcur1⟩:∃ cur1,cur1=(cur.toList.take (i+1)++(L.drop i).flatMap f++cur.toList.drop ((i+1)+((L.drop i).flatMap f).length)).toArray:=⟨_,rfl⟩
 obtain ⟨cur2,hcur2⟩:∃ cur2,cur2=(cur1.toList.take i++f x++cur1.toList.drop (i+(f x).length)).toArray:=⟨_,rfl⟩
 have hs1:cur1.size=c*1:=by
  rw [hcur1];simp only [List.size_toArray,List.length_append,List.length_take,List.length_drop,Array.length_toList,hFb,hsz];omega
 have hs2:cur2.size=c*1:=by
  rw [hcur2];simp only [List.size_toArray,List.length_append,List.length_take,List.length_drop,Array.length_toList,hfx,hs1];omega
 have hcp1:∀ ty dc sc,(Builtin.copy_ #[96,96] ty #[.slice (some ⟨g,(i+1),none⟩) (L.length - i) dc,.slice (some ⟨g,i,none⟩) (L.length+1 - i) sc]).run Tryz.prog w.drew=.ok (goInt (Nat.min (L.length+1 - i) (L.length - i))) (w.drew.setRow g cur1):=fun ty dc sc=>by
  rw [hcur1];refine run_copy_rowk w.drew _ _ ty 9 1 g _ _ _ ⟨g,i,none⟩ _ _ cur 9 _ Tryz.underlying96 size_is q2 (by rw [hFb];congr 1;simp only [Nat.min_def];split <;> omega) (fun j y hj=>?_) (by rw [hFb,hsz];omega) (flat_one h1 _);have hjl:=(List.getElem?_eq_some_iff.1 hj).1;rw [hFb] at hjl;rw [Addr.add_lit]
  show w.cell? _=_
  rw [cell_of_heap q2];refine hcurget _ _ (by omega) ?_;rw [hparts,List.getElem?_append_right (by rw [hFa];omega),hFa];rw [← hj]
  congr 1
  omega
 have hcp2:∀ W:World,W.heap[g]?=some (.cells cur1 9)→(∀ j,W.cell? ⟨vb,j,none⟩=w.cell? ⟨vb,j,none⟩)→∀ ty dc,(Builtin.copy_ #[96,96] ty #[.slice (some ⟨g,i,none⟩) (L.length+1 - i) dc,.slice (some ⟨vb,0,none⟩) 1 1]).run Tryz.prog W=.ok (goInt (Nat.min 1 (L.length+1 - i))) (W.setRow g cur2):=fun W hW hWv ty dc=>by
  rw [hcur2];refine run_copy_rowk W _ _ ty 9 1 g _ _ _ ⟨vb,0,none⟩ _ _ cur1 9 _ Tryz.underlying96 size_is hW (by rw [hfx];simp only [Nat.min_def];split <;> omega) (fun j y hj=>?_) (by rw [hfx,hs1];omega) (h1 x);rw [Addr.add_lit,Nat.zero_add,hWv,cell_of_heap hv];simpa using hj
 have hov:∀ lb cb,(callFunc 150 #[.slice (some ⟨vb,0,none⟩) 1 1,.slice (some ⟨g,(i+1),none⟩) lb cb]).run Tryz.prog w=.ok (.value (.bool false)) w:=fun lb cb=>by
  rw [run_callFunc_extern Tryz.func150 (by kernel_rfl) (by kernel_rfl) (by kernel_rfl) (e:=Extern.SlicesOverlaps.overlaps #[96,96] #[4]) (by kernel_rfl),
   Lib.run_overlaps_apart w 96 4 9 Tryz.underlying96 1 Tryz.sizeOf9 ⟨vb,0,none⟩ ⟨g,(i+1),none⟩ 1 1 lb cb (Ne.symm hgv) _ _ _ _ (shape_of_heap hv) (shape_of_heap q2) (by rw [hsz];omega) (frozen_of_heap hv _) (frozen_of_heap hv _)]
  rfl
 have hw1:IntKind.i64.wrap ((i:Int)+1)=(i:Int)+1:=IntWalk.i64_in _ (by omega)
 have hw2:IntKind.i64.wrap ((L.length:Int)+1)=(L.length:Int)+1:=IntWalk.i64_in _ (by omega)
 have g1:¬ ((i:Int)=(L.length:Int)):=by omega
 have g2:(0:Int)≤(i:Int)+1:=by omega
 have g3:((i:Int)+1).toNat=i+1:=by omega
 have g4:¬ c=i+1:=by omega
 have g5:¬ c=i:=by omega
 have g6:(i:Int)≤(L.length:Int)+1:=by omega
 have g7:¬ (c:Int) < (L.length:Int)+1:=by omega
 have g8:i≤L.length:=by omega
 replace hcp2:=qh hcp2
 replace hcurget:=qh hcurget
 replace hcur1:=qh hcur1
 replace hcur2:=qh hcur2
 replace hf:=qh hf
 replace h1:=qh h1
 go_enter Tryz.func123,Tryz.ntmps123
 go_wp2_with (simp only [hov])
 go_region_law (refine step_copy_is rfl _ _ 96 96 rfl _ _ (by simp [Act.eval,Act.put]) (by simp [Act.eval,Act.put]) (hcp1 _ _ _) ?_)
 have hh1:(w.drew.setRow g cur1).heap[g]?=some (.cells cur1 9):=setRow_heap _ _ _ _ _ _ q2
 have hh2:∀ j,(w.drew.setRow g cur1).cell? ⟨vb,j,none⟩=w.cell? ⟨vb,j,none⟩:=fun j=>World.cell?_of_block (setRow_other w.drew g vb cur1 (Ne.symm hgv))
 have hu1:Upd [g] w (w.drew.setRow g cur1):=((Upd.refl _ _).drew).setRow (by simp) _
 generalize w.drew.setRow g cur1=W1 at *
 replace hh2:=qh hh2
 replace hcp1:=qh hcp1
 go_wp2_with fail
 rw [hcp2.out W1 hh1 hh2.out]
 simp only [Result.andThen]
 rw [Oper.upon_value]
 have hh3:(W1.setRow g cur2).heap[g]?=some (.cells cur2 9):=setRow_heap _ _ _ _ _ _ hh1
 have hu2:Upd [g] w (W1.setRow g cur2):=hu1.setRow (by simp) _
 generalize W1.setRow g cur2=W2 at *
 go_wp2_with fail
 go_ret
 have hL:(L.insertIdx i x).length=L.length+1:=List.length_insertIdx_of_le_length g8 _
 refine ⟨some ⟨g,0,none⟩,c,by simp [hL],?_,hu2.mono (by simp [Value.ownBlock]),.inl (by simp [Value.ownBlock])⟩
 refine ⟨hf.out,h1.out,flat_len hf.out _,.inr ⟨g,c,cur2,by rw [hL],q1,hh3,by omega,q4,hs2,?_⟩⟩
 rw [hL,insert_flat L x i g8,hcur2.out,hcur1.out]
 have hshift:=shift_lists (C:=cur.toList) (n:=L.length*1) (a1:=i) (a2:=(i+1)) (k:=1) (q6.trans hparts) (by omega) (by omega) hfx (by omega) (by omega) (by have:cur.toList.length=cur.size:=Array.length_toList;omega)
 rw [show (L.length+1)*1=L.length*1+1 by omega]
 simpa using hshift
theorem zero_size:(.string ⟨#[]⟩:Value).cells.size=1:=rfl
set_option maxRecDepth 100000 in
theorem insert_grow (h : Row base 9 1 f w (.slice a L.length c) L) (hv : w.heap[vb]? = some (.cells (f x).toArray 9)) (hbase : base ≤ w.heap.size) (hlen : L.length ≤ 100000) (i : Nat) (hi : i < L.length) (hroom : c < L.length + 1) :
    Calls Tryz.prog 123 #[.slice a L.length c,.int .i64 i,.slice (some ⟨vb,0,none⟩) 1 1] w (InsEnd f base (.slice a L.length c) (L.insertIdx i x) w):=by
 obtain ⟨i0,hi0,hz0,hzs,hzb⟩:=info
 obtain ⟨hf,h1,hl0,⟨e,e2⟩ | ⟨g,cap,cur,e,q1,q2,q3,q4,q5,q6⟩⟩:=h
 ·omega
 injection e with e _ e3
 subst e e3
 have hgl:=heap_lt q2
 have hvl:=heap_lt hv
 have hfx:=hf x
 have hF:=flat_len hf L
 have hFb:((L.drop i).flatMap f).length=(L.length - i)*1:=by rw [flat_len hf,List.length_drop]
 have hcap63:c≤9223372036854775807:=by unfold maxLen at q4;omega
 have hsz:cur.size=c*1:=q5
 have hparts:L.flatMap f=(L.take i).flatMap f++(L.drop i).flatMap f:=by rw [← List.flatMap_append,List.take_append_drop]
 have hFa:((L.take i).flatMap f).length=i*1:=by rw [flat_len hf,List.length_take,Nat.min_eq_left (by omega)]
 have hcurget:∀ j y,j < L.length*1→(L.flatMap f)[j]?=some y→cur[j]?=some y:=fun j y hj hy=>by
  rw [← q6] at hy;rw [List.getElem?_take,if_pos hj] at hy;simpa using hy
 have hold:(Builtin.firstCells i0.size i (.slice (some ⟨g,0,none⟩) i c)).run Tryz.prog w.drew=.ok ((L.take i).flatMap f).toArray w.drew:=by
  rw [hzs];refine run_firstCells_some w.drew 1 i ⟨g,0,none⟩ i c _ hFa (fun j y hj=>?_);have hjl:=(List.getElem?_eq_some_iff.1 hj).1;rw [Addr.add_lit,Nat.zero_add]
  show w.cell? _=_
  rw [cell_of_heap q2];refine hcurget _ _ (by omega) ?_;rw [hparts,List.getElem?_append_left hjl];exact hj
 have hkk:(L.length:Int)+1 - (i:Int)=((L.length+1 - i:Nat):Int):=by omega
 have hik:i+(L.length+1 - i)=L.length+1:=by omega
 obtain ⟨G,hG⟩:∃ G,G=grownCap w (L.length+1) c 9:=⟨_,rfl⟩
 obtain ⟨ROW,hROW⟩:∃ ROW:Array Value,ROW=((L.take i).flatMap f).toArray++Builtin.zeroCells (.string ⟨#[]⟩:Value).cells (L.length+1 - i)++Builtin.zeroCells (.string ⟨#[]⟩:Value).cells (G - (L.length+1)):=⟨_,rfl⟩
 have hrz:∀ ty,(Builtin.append_ #[96,3] ty #[.slice (some ⟨g,0,none⟩) i c,.int .i64 ((L.length:Int)+1 - (i:Int))]).run Tryz.prog w=.ok (.slice (some ⟨w.heap.size,0,none⟩) (L.length+1) G) (w.drew.alloc (.cells ROW 9)):=fun ty=>by
  have h:=Lib.run_append_grow_zeros w 96 3 ty 9 i0 _ .i64 .i64 Tryz.underlying96 Tryz.underlying3 hi0 hz0 (some ⟨g,0,none⟩) i c _ hold (L.length+1 - i) (by omega) (by omega) (by omega) (by omega) (by rw [hzb];omega) (by rw [hzb,hik];exact growslice_fits hroom (by omega));rw [hik] at h;rw [hkk,hROW,hG];exact h
 have hGn:L.length+1≤G:=by rw [hG];exact grownCap_ge w _ _ _
 have hG63:G≤maxLen:=by
  rw [hG];exact grownCap_le_maxLen w (L.length+1) c 9 (by unfold maxLen;omega)
 have hG63':G≤9223372036854775807:=by unfold maxLen at hG63;omega
 have hRs:ROW.size=G*1:=by
  rw [hROW];simp only [Array.size_append,List.size_toArray,hFa,Builtin.zeroCells,Array.size_map,Array.size_range,zero_size];omega
 obtain ⟨R1,hR1⟩:∃ R1,R1=(ROW.toList.take i++f x++ROW.toList.drop (i+(f x).length)).toArray:=⟨_,rfl⟩
 obtain ⟨R2,hR2⟩:∃ R2,R2=(R1.toList.take (i+1)++(L.drop i).flatMap f++R1.toList.drop ((i+1)+((L.drop i).flatMap f).length)).toArray:=⟨_,rfl⟩
 have hs1:R1.size=G*1:=by
  rw [hR1];simp only [List.size_toArray,List.length_append,List.length_take,List.length_drop,Array.length_toList,hfx,hRs];omega
 have hs2:R2.size=G*1:=by
  rw [hR2];simp only [List.size_toArray,List.length_append,List.length_take,List.length_drop,Array.length_toList,hFb,hs1];omega
 have hcp2:∀ W:World,W.heap[w.heap.size]?=some (.cells ROW 9)→(∀ j,W.cell? ⟨vb,j,none⟩=w.cell? ⟨vb,j,none⟩)→∀ ty dc,(Builtin.copy_ #[96,96] ty #[.slice (some ⟨w.heap.size,i,none⟩) (L.length+1 - i) dc,.slice (some ⟨vb,0,none⟩) 1 1]).run Tryz.prog W=.ok (goInt (Nat.min 1 (L.length+1 - i))) (W.setRow w.heap.size R1):=fun W hW hWv ty dc=>by
  rw [hR1];refine run_copy_rowk W _ _ ty 9 1 w.heap.size _ _ _ ⟨vb,0,none⟩ _ _ ROW 9 _ Tryz.underlying96 size_is hW (by rw [hfx];simp only [Nat.min_def];split <;> omega) (fun j y hj=>?_) (by rw [hfx,hRs];omega) (h1 x);rw [Addr.add_lit,Nat.zero_add,hWv,cell_of_heap hv];simpa using hj
 have hcp1:∀ W:World,W.heap[w.heap.size]?=some (.cells R1 9)→(∀ j,W.cell? ⟨g,j,none⟩=w.cell? ⟨g,j,none⟩)→∀ ty dc sc,(Builtin.copy_ #[96,96] ty #[.slice (some ⟨w.heap.size,(i+1),none⟩) (L.length - i) dc,.slice (some ⟨g,i,none⟩) (L.length - i) sc]).run Tryz.prog W=.ok (goInt (Nat.min (L.length - i) (L.length - i))) (W.setRow w.heap.size R2):=fun W hW hWg ty dc sc=>by
  rw [hR2];refine run_copy_rowk W _ _ ty 9 1 w.heap.size _ _ _ ⟨g,i,none⟩ _ _ R1 9 _ Tryz.underlying96 size_is hW (by rw [hFb];congr 1;simp only [Nat.min_def];split <;> omega) (fun j y hj=>?_) (by rw [hFb,hs1];omega) (flat_one h1 _);have hjl:=(List.getElem?_eq_some_iff.1 hj).1;rw [hFb] at hjl;rw [Addr.add_lit,hWg,cell_of_heap q2];refine hcurget _ _ (by omega) ?_;rw [hparts,List.getElem?_append_right (by rw [hFa];omega),hFa];rw [← hj]
  congr 1
  omega
 have hw1:IntKind.i64.wrap ((i:Int)+1)=(i:Int)+1:=IntWalk.i64_in _ (by omega)
 have hw2:IntKind.i64.wrap ((L.length:Int)+1)=(L.length:Int)+1:=IntWalk.i64_in _ (by omega)
 have hw3:IntKind.i64.wrap ((L.length:Int)+1 - (i:Int))=(L.length:Int)+1 - (i:Int):=IntWalk.i64_in _ (by omega)
 have g1:¬ ((i:Int)=(L.length:Int)):=by omega
 have g2:(0:Int)≤(i:Int)+1:=by omega
 have g3:((i:Int)+1).toNat=i+1:=by omega
 have g4:¬ G=i+1:=by omega
 have g5:¬ c=i:=by omega
 have g6:¬ G=i:=by omega
 have g7:(c:Int) < (L.length:Int)+1:=by omega
 have g8:i≤L.length:=by omega
 have g9:i≤L.length+1:=by omega
 replace hcp1:=qh hcp1
 replace hcp2:=qh hcp2
 replace hcurget:=qh hcurget
 replace hR1:=qh hR1
 replace hR2:=qh hR2
 replace hROW:=qh hROW
 replace hf:=qh hf
 replace h1:=qh h1
 clear hG hkk hik hold hz0 hzs hzb hi0
 go_enter Tryz.func123,Tryz.ntmps123
 go_wp2_with (at_builtin;refine Lib.wpList_append_run _ rfl _ _ _ _ rfl _ _ rfl rfl _ _ (hrz _) ?_)
 have hh0:(w.alloc (.cells ROW 9)).drew.heap[w.heap.size]?=some (.cells ROW 9):=heap_alloc_new w _
 have hv0:∀ j,(w.alloc (.cells ROW 9)).drew.cell? ⟨vb,j,none⟩=w.cell? ⟨vb,j,none⟩:=fun j=>World.cell?_of_block (Below.heap_alloc w _ _ hvl)
 have hg0:∀ j,(w.alloc (.cells ROW 9)).drew.cell? ⟨g,j,none⟩=w.cell? ⟨g,j,none⟩:=fun j=>World.cell?_of_block (Below.heap_alloc w _ _ hgl)
 have hu0:Upd [] w (w.alloc (.cells ROW 9)).drew:=((Upd.refl _ _).alloc _).drew
 rw [hcp2.out _ hh0 hv0]
 simp only [Result.andThen]
 rw [Oper.upon_value]
 have hh1:((w.alloc (.cells ROW 9)).drew.setRow w.heap.size R1).heap[w.heap.size]?=some (.cells R1 9):=setRow_heap _ _ _ _ _ _ hh0
 have hg1:∀ j,((w.alloc (.cells ROW 9)).drew.setRow w.heap.size R1).cell? ⟨g,j,none⟩=w.cell? ⟨g,j,none⟩:=fun j=>(World.cell?_of_block (setRow_other _ _ g R1 (by omega))).trans (hg0 j)
 have hu1:Upd [] w ((w.alloc (.cells ROW 9)).drew.setRow w.heap.size R1):=hu0.setRowNew (Nat.le_refl _) _
 generalize (w.alloc (.cells ROW 9)).drew.setRow w.heap.size R1=W1 at *
 clear hrz hh0 hv0 hg0 hu0
 replace hg1:=qh hg1
 go_wp2_with fail
 have hh2:W1.drew.heap[w.heap.size]?=some (.cells R1 9):=hh1
 have hg2:Hid (∀ j,W1.drew.cell? ⟨g,j,none⟩=w.cell? ⟨g,j,none⟩):=hg1.out
 have hu2:Upd [] w W1.drew:=hu1.drew
 go_region_law (refine step_copy_is rfl _ _ 96 96 rfl (.slice (some ⟨w.heap.size,(i+1),none⟩) (L.length - i) (G - (i+1))) (.slice (some ⟨g,i,none⟩) (L.length - i) (c - i)) (by simp [Act.eval,Act.put]) (by simp [Act.eval,Act.put]) (hcp1.out _ hh2 hg2.out 3 (G - (i+1)) (c - i)) ?_)
 have hh3:(W1.drew.setRow w.heap.size R2).heap[w.heap.size]?=some (.cells R2 9):=setRow_heap _ _ _ _ _ _ hh2
 have hu3:Upd [] w (W1.drew.setRow w.heap.size R2):=hu2.setRowNew (Nat.le_refl _) _
 generalize W1.drew.setRow w.heap.size R2=W3 at *
 go_wp2_with fail
 go_ret
 have hL:(L.insertIdx i x).length=L.length+1:=List.length_insertIdx_of_le_length g8 _
 refine ⟨some ⟨w.heap.size,0,none⟩,G,by simp [hL],?_,hu3.mono (by simp),.inr (by simp [Value.ownBlock])⟩
 refine ⟨hf.out,h1.out,flat_len hf.out _,.inr ⟨w.heap.size,G,R2,by rw [hL],hbase,hh3,by omega,hG63,hs2,?_⟩⟩
 rw [hL,insert_flat L x i g8,hR2.out,hR1.out,hROW.out]
 have hgl2:=grow_lists (R:=ROW.toList) (Fa:=(L.take i).flatMap f) (Fb:=(L.drop i).flatMap f) (X:=f x) (n:=L.length*1) (a1:=i) (a2:=(i+1)) (k:=1) (by rw [hROW.out];simp only [Array.toList_append,List.append_assoc];rw [List.take_append_of_le_length (by omega),List.take_of_length_le (by omega)]) (by omega) (by omega) hfx (by omega) (by omega)
 rw [show (L.length+1)*1=L.length*1+1 by omega]
 rw [hROW.out] at hgl2
 simpa using hgl2
theorem insert_any (h : Row base 9 1 f w (.slice a L.length c) L) (hv : w.heap[vb]? = some (.cells (f x).toArray 9)) (hbase : base ≤ w.heap.size) (hlen : L.length ≤ 100000) (i : Nat) (hi : i ≤ L.length)
    (hne:∀ b,(Value.slice a L.length c).ownBlock=some b→b≠vb) :
    Calls Tryz.prog 123 #[.slice a L.length c,.int .i64 i,.slice (some ⟨vb,0,none⟩) 1 1] w (InsEnd f base (.slice a L.length c) (L.insertIdx i x) w):=by
 rcases Nat.lt_or_ge i L.length with h1 | h1
 ·rcases Nat.lt_or_ge c (L.length+1) with h2 | h2
  ·exact insert_grow f base a c L x vb w h hv hbase hlen i h1 h2
  ·exact insert_room f base a c L x vb w h hv hlen i h1 h2 hne
 ·obtain rfl:i=L.length:=by omega
  rw [show L.insertIdx L.length x=L++[x] from List.insertIdx_length_self];exact insert_end f base a c L x vb w h hv hbase hlen
end InStr
end Go.Proofs.YtbdealmkmpnpoaaGreat
