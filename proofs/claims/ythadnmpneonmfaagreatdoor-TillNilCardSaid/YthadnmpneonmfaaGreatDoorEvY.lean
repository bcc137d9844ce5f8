/- The step machine: single steps of the world's machine: leaving, deferred calls, rounds. -/
import Derived.Test.YthadnmpneonmfaaGreatDoorEvX
namespace Go.Ev
open Go Go.RowKit
noncomputable section
section steps
variable {P : Program} {fn : Nat} {tmps : Array Value} {k : List Item} {ds : List Deferred} {kd : CallKind} {rn : Option Nat} {cs : List Frame} {w w' : World}

theorem st_opRecover {ops : Array Oper} {i : Nat} {l : List Nat} {o : Oper} (ho : ops[i]? = some o) (hw : Region.wanted o (yielded ops tmps) = true) (hr : (execOp (Act.eval ⟨tmps, []⟩) o).run P w = .ok .recover w')
    (ht : tryRecover (fr fn tmps (.inRegion ops (i :: l) :: k) ds kd none) cs = none) :
    step P (lone (fr fn tmps (.inRegion ops (i :: l) :: k) ds kd none) cs w) = .next (lone (fr fn (putA tmps o.dst .nilIface) (.inRegion ops l :: k) ds kd none) cs w') := step_lone_go (by
  have hf := fin_reg (fn := fn) (tmps := tmps) (k := k) (ds := ds) (kd := kd) (rn := none) (l := l) ho .nilIface .run
  rw [g_op ho hw (.inl rfl)]
  simp only [stepG.apply, Sem.runT_eq, hr, GStep.bare_after, if_true, ht]
  rw [hf]; rfl)
theorem st_mark {c : Nat} (h0 : w.heap[c]? = some (.deferred (some []))) {k : List Item} :
    step P (lone { fr fn tmps k ({ target := .collected c, args := #[] } :: ds) kd rn with mode := .returning } cs w) = .next (lone { fr fn tmps k ds kd rn with mode := .returning } cs { w with heap := w.heap.setIfInBounds c (.deferred none) }) := step_lone_go (by
  have hrun : (Instr.takeDeferred c).run P w = .ok [] { w with heap := w.heap.setIfInBounds c (.deferred none) } := by
    simp [Instr.takeDeferred, getObj_run (P := P) h0 (by intros; simp), setObj_run (P := P) h0 (by intros; simp), Result.andThen]
  simp [stepG, unwind, Sem.runT_eq, hrun, GStep.bare_after])
theorem endRound_run {l : Nat} {lp : Loop} (h0 : w.heap[l]? = some (.loop lp)) (j : Option Code) : (Instr.endRound l j).run P w = .ok (.bool j.isNone) { w with heap := w.heap.setIfInBounds l (.loop { lp with state := if j.isNone then .ready else .done, pending := j }) } := by
  simp [Instr.endRound, Instr.getLoop, getObj_run (P := P) h0 (by intros; simp), setObj_run (P := P) h0 (by intros; simp), Result.andThen]
theorem st_leaveEnd {l : Nat} {lp : Loop} {c : Frame} (h0 : w.heap[l]? = some (.loop lp)) :
    step P (lone (fr fn tmps [] ds .normal (some l)) (c :: cs) w) = .next (lone (c.finish (.bool true)) cs { w with heap := w.heap.setIfInBounds l (.loop { lp with state := .ready, pending := none }) }) := step_lone_go (by
  have hr := endRound_run (P := P) h0 none
  simp [stepG, stepG.exec, Sem.runT_eq, hr, GStep.bare_after, doReturn])
theorem st_leaveRet {l : Nat} {lp : Loop} {c : Frame} (h0 : w.heap[l]? = some (.loop lp)) :
    step P (lone (fr fn tmps (.code .ret :: k) ds .normal (some l)) (c :: cs) w) = .next (lone (c.finish (.bool false)) cs { w with heap := w.heap.setIfInBounds l (.loop { lp with state := .done, pending := some .ret }) }) := step_lone_go (by
  have hr := endRound_run (P := P) h0 (some .ret)
  simp [stepG, stepG.exec, Sem.runT_eq, hr, GStep.bare_after, doReturn])
theorem st_leaveExit {l id : Nat} {lp : Loop} {c : Frame} (h0 : w.heap[l]? = some (.loop lp)) (he : exitTo id k = none) :
    step P (lone (fr fn tmps (.code (.exit id) :: k) ds .normal (some l)) (c :: cs) w) = .next (lone (c.finish (.bool false)) cs { w with heap := w.heap.setIfInBounds l (.loop { lp with state := .done, pending := some (.exit id) }) }) := step_lone_go (by
  have hr := endRound_run (P := P) h0 (some (.exit id))
  simp [stepG, stepG.exec, he, Sem.runT_eq, hr, GStep.bare_after, doReturn])
theorem st_leaveGoto {l id : Nat} {lp : Loop} {c : Frame} (h0 : w.heap[l]? = some (.loop lp)) (he : gotoIn id k = none) :
    step P (lone (fr fn tmps (.code (.goto id) :: k) ds .normal (some l)) (c :: cs) w) = .next (lone (c.finish (.bool false)) cs { w with heap := w.heap.setIfInBounds l (.loop { lp with state := .done, pending := some (.goto id) }) }) := step_lone_go (by
  have hr := endRound_run (P := P) h0 (some (.goto id))
  simp [stepG, stepG.exec, he, Sem.runT_eq, hr, GStep.bare_after, doReturn])
theorem st_beginRound {l : Nat} {lp : Loop} (h0 : w.heap[l]? = some (.loop lp)) (hs : lp.state = .ready) :
    step P (lone (fr fn tmps (.beginRound :: k) ds kd (some l)) cs w) = .next (lone (fr fn tmps k ds kd (some l)) cs { w with heap := w.heap.setIfInBounds l (.loop { lp with state := .busy }) }) := step_lone_go (by
  have hr : (Instr.beginRound l).run P w = .ok () { w with heap := w.heap.setIfInBounds l (.loop { lp with state := .busy }) } := by
    simp [Instr.beginRound, Instr.getLoop, getObj_run (P := P) h0 (by intros; simp), setObj_run (P := P) h0 (by intros; simp), Result.andThen, hs]
  have hr2 : (do (some l).elim (stuck "beginRound: no round") Instr.beginRound; pure .skip : Sem Next).run P w = .ok .skip { w with heap := w.heap.setIfInBounds l (.loop { lp with state := .busy }) } := by
    simp [hr, Result.andThen]
  simp only [stepG, stepG.exec, stepG.apply, Sem.runT_eq, hr2, GStep.bare_after, if_true]
  rfl)
theorem st_endRF {l : Nat} {lp : Loop} (h0 : w.heap[l]? = some (.loop lp)) (hs : lp.state ≠ .busy) :
    step P (lone (fr fn tmps (.endRangeFunc l :: k) ds kd rn) cs w) = .next (lone (fr fn tmps ((lp.pending.map Item.code).toList ++ k) ds kd rn) cs { w with heap := w.heap.setIfInBounds l (.loop { lp with state := .exhausted }) }) := step_lone_go (by
  have hb : (lp.state == LoopState.busy) = false := by simpa using hs
  have hr : (Instr.endLoop l).run P w = .ok lp.pending { w with heap := w.heap.setIfInBounds l (.loop { lp with state := .exhausted }) } := by
    simp [Instr.endLoop, Instr.getLoop, getObj_run (P := P) h0 (by intros; simp), setObj_run (P := P) h0 (by intros; simp), Result.andThen, hs]
  simp [stepG, stepG.exec, Sem.runT_eq, hr, GStep.bare_after])
theorem st_rangeFunc {f : Operand} {params : Array Tmp} {a b : Code} {g : Nat} {p q : List Value} (hf : Act.eval ⟨tmps, []⟩ f = .func (.func g) ⟨p⟩ ⟨q⟩)
    (hg : ∀ d : World, ∀ args : Array Value, (callFunc g args).run P d = .ok (.enter g args) d) :
    step P (lone (fr fn tmps (.code (.rangeFunc f params a b) :: k) ds kd none) cs w) =
      .next (lone (Frame.enter P g ⟨p ++ .func (.yield (w.heap.size + 1)) #[] #[] :: q⟩ .normal)
        (fr fn tmps (.inRangeFunc (w.heap.size + 1) :: k) ({ target := .collected w.heap.size, args := #[] } :: ds) kd none :: cs)
        ((w.alloc (.deferred (some []))).alloc (.loop { state := .ready, pending := none, fn := fn, tmps := tmps, params := params, assign := a, body := b, defers := w.heap.size }))) := step_lone_go (by
  have h1 : (Instr.enterLoop fn tmps params a b none).run P w = .ok (w.heap.size + 1, [{ target := .collected w.heap.size, args := #[] }]) ((w.alloc (.deferred (some []))).alloc (.loop { state := .ready, pending := none, fn := fn, tmps := tmps, params := params, assign := a, body := b, defers := w.heap.size })) := by
    simp [Instr.enterLoop, Result.andThen]
  have e := fun t d => congrFun (eval_eq (fr fn tmps t d kd none)) f
  have h2 : ∀ t d (W : World), ((do let d ← resolve (fr fn tmps t d kd none).eval { callee := .value f, args := #[.const (.func (.yield (w.heap.size + 1)) #[] #[])], argTypes := #[] } 0; invoke d.target d.args) : Sem Next).run P W = .ok (.enter g ⟨p ++ .func (.yield (w.heap.size + 1)) #[] #[] :: q⟩) W := by
    intro t d W
    have e1 := e t d
    simp only at e1
    have hv : (fr fn tmps t d kd none).eval (.const (.func (.yield (w.heap.size + 1)) #[] #[])) = .func (.yield (w.heap.size + 1)) #[] #[] := rfl
    simp only [resolve, e1, hf, Deferred.ofValue, Sem.run_bind, Sem.run_pure, andThen_ok, invoke]
    rw [hg]
    congr 2
    apply Array.ext'
    simp [hv]
  simp only [stepG, stepG.exec, Sem.runT_eq, h1, GStep.bare_after, List.singleton_append]
  have h3 := h2 (.inRangeFunc (w.heap.size + 1) :: k) ({ target := .collected w.heap.size, args := #[] } :: ds)
  simp only [stepG.apply, Sem.runT_eq, h3, GStep.bare_after, if_true]
  rfl)
end steps
end
end Go.Ev
