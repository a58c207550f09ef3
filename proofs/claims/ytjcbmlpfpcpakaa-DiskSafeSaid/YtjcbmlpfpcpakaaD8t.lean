/- A region that draws its order, taken by hand: all that yields under S is taken first; then one operation at a time. -/
import Derived.Test.YtjcbmlpfpcpakaaD8l
import Derived.Deep.DeepCutAuto
import Derived.Deep.RegionHeldLaw
namespace Go.Proofs.Ytjcbmlpfpcpakaa
open Go.RowKit
open Lean Elab Tactic Meta
/-- the walk: what yields in whatever world is taken first ('yl' is tried at '∀ w, (execOp ..).run P w = ..' behind its intro); at all else that may come up 'st' is tried ahead of 'go_simp' and leaves 'K ..' alone -/
partial def anyWalk (yl st : TSyntax `tactic) (tell : Bool) : TacticM Unit := withMainContext do
  let t := (← instantiateMVars (← getMainTarget)).consumeMData
  unless t.isAppOfArity ``wpAny 8 do throwError "any_walk: no region under way:\n{t}"
  let args := t.getAppArgs
  let md := args[1]!
  let ops := args[2]!
  let listed := args[5]!
  let ready ← kernelNats (mkApp3 (mkConst ``Region.ready) md ops listed)
  if ready.isEmpty then
    evalTactic (← `(tactic| refine wpAny_done (by kernel_rfl) ?_ _))
    return
  for i in ready do
    unless ← kernelBool (mkApp4 (mkConst ``Region.free) md ops listed (mkNatLit i)) do continue
    let some hd := opHead ops i | continue
    unless worldless.contains hd || hd == ``Op.sliceToArrayPointer || takenFirstToo ops i do continue
    let s ← saveState
    let took ← try
      let some oe := opAt ops i | throwError "no operation"
      let oS ← Term.exprToSyntax oe
      evalTactic (← `(tactic| refine wpAny_take (i := $(quote i)) (oi := $oS) (v := ?_) rfl (by kernel_rfl) (by kernel_rfl) (by kernel_rfl) (fun _ _ _ h => h) (Or.inl ⟨by rfl, ?_⟩) ?_))
      let [_, hy, rest] ← getGoals | throwError "three goals expected"
      setGoals [hy]
      evalTactic (← `(tactic| intro w))
      let s1 ← saveState
      let gs1 ← getGoals
      try
        evalTactic yl
        unless (← getGoals).isEmpty do throwError "not closed"
      catch _ =>
        s1.restore
        setGoals gs1
        evalTactic (← `(tactic| go_simp))
        unless (← getGoals).isEmpty do evalTactic (← `(tactic| with_reducible rfl))
        unless (← getGoals).isEmpty do throwError "not closed"
      setGoals [rest]
      evalTactic (← `(tactic| try simp only [Act.put, List.setIfInBounds_toArray, List.set_cons_zero, List.set_cons_succ]))
      pure true
    catch e =>
      s.restore
      if tell then logInfo m!"any_walk: {i} not taken: {e.toMessageData}"
      pure false
    if took then
      anyWalk yl st tell
      return
  if tell then logInfo m!"any_walk: branching over {ready}"
  let lits : Array (TSyntax `term) := ready.toArray.map fun i => quote i
  evalTactic (← `(tactic| refine wpAny_ready (rs := [$lits,*]) (by kernel_rfl) (by simp) ?_))
  let mut done : List MVarId := []
  for i in ready do
    let some oe := opAt ops i | throwError "no operation"
    let oS ← Term.exprToSyntax oe
    evalTactic (← `(tactic| refine AllReady.cons (o := $oS) rfl (fun K hK => ?_) ?_))
    let [step, more] ← getGoals | throwError "two goals expected"
    setGoals [step]
    let s0 ← saveState
    try
      evalTactic st
      unless (← getGoals).length == 1 do throwError "it has left {(← getGoals).length} goals"
    catch ex =>
      s0.restore
      setGoals [step]
      if tell then logInfo m!"any_walk: at {i} the law did not fit: {ex.toMessageData}"
      evalTactic (← `(tactic| go_simp))
    let left := (← instantiateMVars (← getMainTarget)).consumeMData
    unless left.getAppFn.isFVar || left.isAppOf ``wpAny do throwError "any_walk: operation {i} could not be run to its end:\n{left}"
    unless left.isAppOf ``wpAny do evalTactic (← `(tactic| (refine hK _ _ ?_; clear hK K)))
    evalTactic (← `(tactic| try simp only [Act.put, List.setIfInBounds_toArray, List.set_cons_zero, List.set_cons_succ]))
    anyWalk yl st tell
    done := done ++ (← getGoals)
    setGoals [more]
  evalTactic (← `(tactic| exact AllReady.nil))
  setGoals done
def anyStart (yl st : TSyntax `tactic) (tell : Bool) : TacticM Unit := do
  evalTactic (← `(tactic| refine wp_region_any (by kernel_rfl) ?_))
  evalTactic (← `(tactic| try (change wpAny _ _ _ _ _ _ _ (World.drew _))))
  anyWalk yl st tell
elab "any_walk " "(" yl:tactic ")" "(" st:tactic ")" : tactic => anyStart yl st false
elab "any_walk? " "(" yl:tactic ")" "(" st:tactic ")" : tactic => anyStart yl st true
theorem array_run (b o c : Nat) (w : World) : (Instr.arrayAt 132 (.slice (some ⟨b, o, none⟩) 64 c)).run Try.prog w = .ok (.pointer (some ⟨b, o, none⟩)) w := by kernel_rfl
section
variable {a : Operand → Value} {ds : Option Nat} {ty : TypeId} {ps : String} {af : Array Edge} {gd : Option (Nat × Bool)} {w : World} {x y : Operand}
theorem exec_load_sec (b off : Nat) (l : List (BitVec 8)) (hl : l.length = 64) (hx : a x = .pointer (some ⟨b, off, none⟩))
    (hr : w.rangeAt b off (l.map cb)) : (execOp a ⟨ds, .load 132 x, ty, ps, af, gd⟩).run Try.prog w = .ok (.value (.agg (V cb l))) w := by
  unfold execOp
  simp only [hx, Sem.run_bind, load_sec hr hl, Result.andThen_ok]
  rfl
theorem exec_build_pend (at' : Nat) (l : List (BitVec 8)) (hl : l.length = 64) (hx : a x = ci at') (hy : a y = .agg (V cb l)) :
    (execOp a ⟨ds, .build 134 #[(0, x), (1, y)], ty, ps, af, gd⟩).run Try.prog w = .ok (.value (.agg (pc (at', l)).toArray)) w := by
  unfold execOp
  simp only [List.map_toArray, List.map_cons, List.map_nil, hx, hy, Sem.run_bind, build_run at' l hl w, Result.andThen_ok]
  rfl
theorem exec_array (b off c : Nat) (hx : a x = .slice (some ⟨b, off, none⟩) 64 c) :
    (execOp a ⟨ds, .sliceToArrayPointer 132 x, ty, ps, af, gd⟩).run Try.prog w = .ok (.value (.pointer (some ⟨b, off, none⟩))) w := by
  unfold execOp
  simp only [hx, Sem.run_bind, array_run, Result.andThen_ok]
  rfl
end
theorem row_ext {w w' : World} {B T s : Nat} {rv : Value} {n : Nat} {xs : List Value} (h : w.ownsRow B T s rv n xs) (e : Ext w w') : w'.ownsRow B T s rv n xs := by
  obtain ⟨h1, h2 | ⟨x, cap, cur, h2, h3, h4, h5⟩⟩ := h
  · exact ⟨h1, Or.inl h2⟩
  · exact ⟨h1, Or.inr ⟨x, cap, cur, h2, h3, e.heap h4, h5⟩⟩
theorem Only.set {a b : World} {p : Nat → Prop} (h : Only a b p) {g i : Nat} (hg : p g) (v : Value) : Only a (b.setCell ⟨g, i, none⟩ v) p :=
  h.trans ⟨rfl, rfl, rfl, by simp [World.setCell], fun k _ hk => Below.heap_setCell _ _ _ _ (fun e => hk ((show g = k from e.symm) ▸ hg))⟩
theorem Only.drew {a b : World} {p : Nat → Prop} (h : Only a b p) : Only a b.drew p := ⟨h.os, h.tape, h.output, h.size, h.block⟩
theorem Blk.drew {w : World} {g : Nat} {c : Array Value} {t : TypeId} (h : Blk w g c t) : Blk w.drew g c t := h
theorem range_ext {w w' : World} {b o : Nat} {cs : List Value} (h : w.rangeAt b o cs) (e : Ext w w') : w'.rangeAt b o cs := fun j v hv => e.cell (h j v hv)
theorem row_far {w w' : World} {B T s : Nat} {rv : Value} {n : Nat} {xs : List Value} (h : w.ownsRow B T s rv n xs) (he : ∀ k, rv.ownBlock = some k → k < w.heap.size → w'.heap[k]? = w.heap[k]?) : w'.ownsRow B T s rv n xs := by
  obtain ⟨h1, h2 | ⟨x, cap, cur, h2, h3, h4, h5⟩⟩ := h
  · exact ⟨h1, Or.inl h2⟩
  · refine ⟨h1, Or.inr ⟨x, cap, cur, h2, h3, ?_, h5⟩⟩
    rw [he x (by rw [h2]; rfl) (Array.getElem?_eq_some_iff.1 h4).1]
    exact h4
end Go.Proofs.Ytjcbmlpfpcpakaa
