/- A region that draws, with guarded operations that are NOT wanted ('&&', '||', a nil pointer's way): such an operation is taken at once, whatever its kind. 'go_region_heldG S (keep) (tac)': the arguments of go_region_held3. -/
import Derived.Deep.RegionHeld3
import Derived.NoCompiler
namespace Go.Proofs.Ytoknkedmpdcinaa
open Lean Elab Tactic Meta Go
/-- Is operation o not wanted in state a? -/
def notWanted (ops o a : Lean.Expr) : MetaM Bool := do
  try
    let w := mkApp2 (mkConst ``Region.wanted) o (mkApp2 (mkConst ``yielded) ops (mkApp (mkConst ``Act.tmps) a))
    return !(← kernelBool w)
  catch _ => return false
/-- One take of an operation of which the law wants no arm; true if one was taken. -/
def takeOne : TacticM Bool := withMainContext do
  let t := (← instantiateMVars (← getMainTarget)).consumeMData
  unless t.isAppOfArity ``wpAnyH 9 do throwError "go_region_heldG: the goal is no 'wpAnyH':\n{t}"
  let args := t.getAppArgs
  let md := args[1]!
  let ops := args[2]!
  let listed := args[6]!
  let a := args[7]!
  for i in ← kernelNats (mkApp3 (mkConst ``Region.ready) md ops listed) do
    let some o := opAt ops i | throwError "go_region_heldG: the region is not written out"
    unless ← kernelBool (mkApp4 (mkConst ``Region.free) md ops listed (mkNatLit i)) do continue
    let oS ← Term.exprToSyntax o
    let skip ← notWanted ops o a
    let kind := opHead ops i
    unless skip || kind == some ``Op.load || (kind.any worldless.contains) || takenFirstToo ops i do continue
    let s ← saveState
    try
      if skip then
        evalTactic (← `(tactic| refine wpAnyH_take (i := $(quote i)) (oi := $oS) (v := undef) rfl (by kernel_rfl) (by kernel_rfl) (by kernel_rfl) (fun _ _ _ h => h) (Or.inr ⟨by kernel_rfl, rfl⟩) (by assumption) ?_))
      else
        evalTactic (← `(tactic| refine wpAnyH_take (i := $(quote i)) (oi := $oS) (v := ?_) rfl (by kernel_rfl) (by kernel_rfl) (by kernel_rfl) (fun _ _ _ h => h) (Or.inl ⟨by rfl, ?_⟩) (by assumption) ?_))
        let [_, hy, rest] ← getGoals | throwError "three goals"
        setGoals [hy]
        evalTactic (← `(tactic| (intro w hSw; (try dsimp only at hSw); go_simp)))
        unless (← getGoals).isEmpty do evalTactic (← `(tactic| with_reducible rfl))
        unless (← getGoals).isEmpty do throwError "open"
        setGoals [rest]
      evalTactic (← `(tactic| try simp only [Act.put, List.setIfInBounds_toArray, List.set_cons_zero, List.set_cons_succ]))
      return true
    catch e =>
      s.restore
      if skip then logWarning m!"go_region_heldG: {opWords ops i} is not wanted, and was not taken: {e.toMessageData}"
      else logWarning m!"go_region_heldG: {opWords ops i} was not taken: {e.toMessageData}"
  return false
partial def walkG (keep tac : TSyntax `tactic) : TacticM Unit := withMainContext do
  if ← takeOne then
    walkG keep tac
    return
  let t := (← instantiateMVars (← getMainTarget)).consumeMData
  let args := t.getAppArgs
  let md := args[1]!
  let ops := args[2]!
  let listed := args[6]!
  let ready ← kernelNats (mkApp3 (mkConst ``Region.ready) md ops listed)
  if ready.isEmpty then
    evalTactic (← `(tactic| refine wpAnyH_done (by kernel_rfl) ?_ _))
    return
  let lits : Array (TSyntax `term) := ready.toArray.map fun i => quote i
  evalTactic (← `(tactic| refine wpAnyH_ready (rs := [$lits,*]) (by kernel_rfl) (by simp) ?_))
  let mut out : List MVarId := []
  for i in ready do
    let some o := opAt ops i | throwError "go_region_heldG: the region is not written out"
    let oS ← Term.exprToSyntax o
    evalTactic (← `(tactic| refine AllReadyH.cons (o := $oS) rfl (fun K hK => ?_) ?_))
    let [step, more] ← getGoals | throwError "go_region_heldG: two goals expected"
    setGoals [step]
    evalTactic (← `(tactic| go_simp))
    unless (← instantiateMVars (← getMainTarget)).consumeMData.getAppFn.isFVar do
      try underBudget (evalTactic tac)
      catch e => throwError "go_region_heldG: at {opWords ops i} no arm fitted: {e.toMessageData}"
      unless (← getGoals).isEmpty || (← instantiateMVars (← getMainTarget)).consumeMData.getAppFn.isFVar do evalTactic (← `(tactic| go_wp2_with fail))
    unless (← getGoals).length == 1 do throwError "go_region_heldG: {opWords ops i}: {(← getGoals).length} goals are left"
    evalTactic (← `(tactic| refine hK.out _ _ ?_ (fun hHeld => ?_)))
    let [hS, rest] ← getGoals | throwError "go_region_heldG: two goals expected behind the step"
    setGoals [hS]
    evalTactic (← `(tactic| try dsimp only))
    unless (← getUnsolvedGoals).isEmpty do
      try underBudget (evalTactic keep)
      catch e => throwError "go_region_heldG: behind {opWords ops i} S could not be shown anew: {e.toMessageData}"
    unless (← getUnsolvedGoals).isEmpty do throwError "go_region_heldG: behind {opWords ops i} S could not be shown anew"
    setGoals [rest]
    evalTactic (← `(tactic| clear hK K))
    evalTactic (← `(tactic| try simp only [Act.put, List.setIfInBounds_toArray, List.set_cons_zero, List.set_cons_succ]))
    clearOldHeld
    walkG keep tac
    out := out ++ (← getGoals)
    setGoals [more]
  evalTactic (← `(tactic| exact AllReadyH.nil))
  setGoals out
elab "go_region_heldG " S:term:max ppSpace "(" keep:tactic ")" ppSpace "(" tac:tactic ")" : tactic => withMainContext do
  evalTactic (← `(tactic| refine wp_region_held_drew (S := $S) (by kernel_rfl) ?_ (fun hHeld => ?_)))
  let [hS, rest] ← getGoals | throwError "go_region_heldG: two goals expected at the beginning"
  setGoals [hS]
  evalTactic (← `(tactic| try dsimp only))
  unless (← getUnsolvedGoals).isEmpty do underBudget (evalTactic keep)
  unless (← getUnsolvedGoals).isEmpty do throwError "go_region_heldG: S could not be shown at the beginning"
  setGoals [rest]
  walkG keep tac
end Go.Proofs.Ytoknkedmpdcinaa
