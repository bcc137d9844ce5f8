/- The step machine: single steps of the world's machine. -/
import Derived.Test.YthadnmpneonmfaaGreatDoorEvW
namespace Go.Ev
open Go Go.RowKit
noncomputable section
section steps
variable {P : Program} {fn : Nat} {tmps : Array Value} {k : List Item} {ds : List Deferred} {kd : CallKind} {rn : Option Nat} {cs : List Frame} {w w' : World}
abbrev fr (fn : Nat) (tmps : Array Value) (k : List Item) (ds : List Deferred) (kd : CallKind) (rn : Option Nat) : Frame := { fn, tmps, todo := k, defers := ds, mode := .run, kind := kd, roundOf := rn }

theorem eval_eq (f : Frame) : f.eval = Act.eval ⟨f.tmps, []⟩ := by funext x; cases x <;> rfl
theorem st_skip : step P (lone (fr fn tmps (.code .skip :: k) ds kd rn) cs w) = .next (lone (fr fn tmps k ds kd rn) cs w) := step_lone_go (by simp [stepG, stepG.exec])
theorem st_label {l : Nat} : step P (lone (fr fn tmps (.code (.label l) :: k) ds kd rn) cs w) = .next (lone (fr fn tmps k ds kd rn) cs w) := step_lone_go (by simp [stepG, stepG.exec])
theorem st_inBlock {l : Nat} : step P (lone (fr fn tmps (.inBlock l :: k) ds kd rn) cs w) = .next (lone (fr fn tmps k ds kd rn) cs w) := step_lone_go (by simp [stepG, stepG.exec])
theorem st_inScope {b : Code} : step P (lone (fr fn tmps (.inScope b :: k) ds kd rn) cs w) = .next (lone (fr fn tmps k ds kd rn) cs w) := step_lone_go (by simp [stepG, stepG.exec])
theorem st_seq {a b : Code} : step P (lone (fr fn tmps (.code (.seq a b) :: k) ds kd rn) cs w) = .next (lone (fr fn tmps (.code a :: .code b :: k) ds kd rn) cs w) := step_lone_go (by simp [stepG, stepG.exec])
theorem st_cond {c : Operand} {a b : Code} {t : Bool} (h : Act.eval ⟨tmps, []⟩ c = .bool t) : step P (lone (fr fn tmps (.code (.cond c a b) :: k) ds kd rn) cs w) = .next (lone (fr fn tmps (.code (if t then a else b) :: k) ds kd rn) cs w) := step_lone_go (by
  have e := congrFun (eval_eq (fr fn tmps (.code (.cond c a b) :: k) ds kd rn)) c
  simp only at e
  simp [stepG, stepG.exec, e, h])
theorem st_block {id : Nat} {b : Code} : step P (lone (fr fn tmps (.code (.block id b) :: k) ds kd rn) cs w) = .next (lone (fr fn tmps (.code b :: .inBlock id :: k) ds kd rn) cs w) := step_lone_go (by simp [stepG, stepG.exec])
theorem st_loop {b : Code} : step P (lone (fr fn tmps (.code (.loop b) :: k) ds kd rn) cs w) = .next (lone (fr fn tmps (.code b :: .inLoop b :: k) ds kd rn) cs w) := step_lone_go (by simp [stepG, stepG.exec])
theorem st_inLoop {b : Code} : step P (lone (fr fn tmps (.inLoop b :: k) ds kd rn) cs w) = .next (lone (fr fn tmps (.code b :: .inLoop b :: k) ds kd rn) cs w) := step_lone_go (by simp [stepG, stepG.exec])
theorem st_scope {b : Code} : step P (lone (fr fn tmps (.code (.scope b) :: k) ds kd rn) cs w) = .next (lone (fr fn tmps (.code b :: .inScope b :: k) ds kd rn) cs w) := step_lone_go (by simp [stepG, stepG.exec])
theorem st_exit {id : Nat} {k' : List Item} (h : exitTo id k = some k') : step P (lone (fr fn tmps (.code (.exit id) :: k) ds kd rn) cs w) = .next (lone (fr fn tmps k' ds kd rn) cs w) := step_lone_go (by simp [stepG, stepG.exec, h])
theorem st_goto {id : Nat} {k' : List Item} (h : gotoIn id k = some k') : step P (lone (fr fn tmps (.code (.goto id) :: k) ds kd rn) cs w) = .next (lone (fr fn tmps k' ds kd rn) cs w) := step_lone_go (by simp [stepG, stepG.exec, h])
theorem st_ret : step P (lone (fr fn tmps (.code .ret :: k) ds kd none) cs w) = .next (lone { fr fn tmps (.code .ret :: k) ds kd none with mode := .returning } cs w) := step_lone_go (by simp [stepG, stepG.exec])
theorem st_end : step P (lone (fr fn tmps [] ds kd none) cs w) = .next (lone { fr fn tmps [] ds kd none with mode := .returning } cs w) := step_lone_go (by simp [stepG, stepG.exec])
theorem st_region {id : Nat} {ops : Array Oper} : step P (lone (fr fn tmps (.code (.region id ops false) :: k) ds kd rn) cs w) = .next (lone (fr fn tmps (.inRegion ops (List.range ops.size) :: k) ds kd rn) cs w) := step_lone_go (by simp [stepG, stepG.exec])
theorem st_draw {id : Nat} {ops : Array Oper} : ∃ t, step P (lone (fr fn tmps (.code (.region id ops true) :: k) ds kd rn) cs w) = .next (lone (fr fn tmps (.inRegion ops (Region.schedule (P.follows .mixedOrders) ops t) :: k) ds kd rn) cs w.drew) :=
  ⟨_, step_lone_go (by simp [stepG, stepG.exec, choose, Sem.run, Question.forced, Question.cut]; rfl)⟩
theorem st_regEnd {ops : Array Oper} : step P (lone (fr fn tmps (.inRegion ops [] :: k) ds kd rn) cs w) = .next (lone (fr fn tmps k ds kd rn) cs w) := step_lone_go (by simp [stepG, stepG.exec])
def putA (tmps : Array Value) (dst : Option Nat) (v : Value) : Array Value :=
  match dst with
  | some d => tmps.setIfInBounds d v
  | none => tmps
theorem fin_reg {ops : Array Oper} {i : Nat} {l : List Nat} {o : Oper} (ho : ops[i]? = some o) (v : Value) (m : FrameMode) : Frame.finish { fr fn tmps (.inRegion ops (i :: l) :: k) ds kd rn with mode := m } v = { fr fn (putA tmps o.dst v) (.inRegion ops l :: k) ds kd rn with mode := m } := by
  simp only [Frame.finish, ho, Option.bind_some, putA]
  cases o.dst <;> rfl
theorem st_opSkip {ops : Array Oper} {i : Nat} {l : List Nat} {o : Oper} (ho : ops[i]? = some o) (hw : Region.wanted o (yielded ops tmps) = false) :
    step P (lone (fr fn tmps (.inRegion ops (i :: l) :: k) ds kd rn) cs w) = .next (lone (fr fn (putA tmps o.dst undef) (.inRegion ops l :: k) ds kd rn) cs w) := step_lone_go (by
  have hf := fin_reg (fn := fn) (tmps := tmps) (k := k) (ds := ds) (kd := kd) (rn := rn) (l := l) ho undef .run
  simp only [stepG, stepG.exec, ho, Option.map_some, Option.getD_some, hw, Bool.false_eq_true, if_false]
  rw [hf]; rfl)
theorem g_op {ops : Array Oper} {i : Nat} {l : List Nat} {o : Oper} (ho : ops[i]? = some o) (hw : Region.wanted o (yielded ops tmps) = true) (hd : rn = none ∨ ∀ c, o.op ≠ .defer c) :
    stepG P true { frame := fr fn tmps (.inRegion ops (i :: l) :: k) ds kd rn, callers := cs, status := .running, dying := none } w = stepG.apply P true (fr fn tmps (.inRegion ops (i :: l) :: k) ds kd rn) cs none (execOp (Act.eval ⟨tmps, []⟩) o) w := by
  have e := eval_eq (fr fn tmps (.inRegion ops (i :: l) :: k) ds kd rn)
  simp only at e
  simp only [stepG, stepG.exec, ho, Option.map_some, Option.getD_some, hw, if_true, stepG.oper, Frame.oper?]
  rw [e]
  rcases hd with rfl | hd
  · rfl
  · cases rn with
    | none => rfl
    | some r => cases hop : o.op <;> first | rfl | exact absurd hop (hd _)
theorem st_opVal {ops : Array Oper} {i : Nat} {l : List Nat} {o : Oper} {x : Value} (ho : ops[i]? = some o) (hw : Region.wanted o (yielded ops tmps) = true) (hd : rn = none ∨ ∀ c, o.op ≠ .defer c) (hr : (execOp (Act.eval ⟨tmps, []⟩) o).run P w = .ok (.value x) w') :
    step P (lone (fr fn tmps (.inRegion ops (i :: l) :: k) ds kd rn) cs w) = .next (lone (fr fn (putA tmps o.dst x) (.inRegion ops l :: k) ds kd rn) cs w') := step_lone_go (by
  have hf := fin_reg (fn := fn) (tmps := tmps) (k := k) (ds := ds) (kd := kd) (rn := rn) (l := l) ho x .run
  rw [g_op ho hw hd]
  simp only [stepG.apply, Sem.runT_eq, hr, GStep.bare_after, if_true]
  rw [hf]; rfl)
theorem st_opSkp {ops : Array Oper} {i : Nat} {l : List Nat} {o : Oper} (ho : ops[i]? = some o) (hw : Region.wanted o (yielded ops tmps) = true) (hd : rn = none ∨ ∀ c, o.op ≠ .defer c) (hr : (execOp (Act.eval ⟨tmps, []⟩) o).run P w = .ok .skip w') :
    step P (lone (fr fn tmps (.inRegion ops (i :: l) :: k) ds kd rn) cs w) = .next (lone (fr fn (putA tmps o.dst undef) (.inRegion ops l :: k) ds kd rn) cs w') := step_lone_go (by
  have hf := fin_reg (fn := fn) (tmps := tmps) (k := k) (ds := ds) (kd := kd) (rn := rn) (l := l) ho undef .run
  rw [g_op ho hw hd]
  simp only [stepG.apply, Sem.runT_eq, hr, GStep.bare_after, if_true]
  rw [hf]; rfl)
theorem st_opDefer {ops : Array Oper} {i : Nat} {l : List Nat} {o : Oper} {d : Deferred} (ho : ops[i]? = some o) (hw : Region.wanted o (yielded ops tmps) = true) (hr : (execOp (Act.eval ⟨tmps, []⟩) o).run P w = .ok (.defer d) w') :
    step P (lone (fr fn tmps (.inRegion ops (i :: l) :: k) ds kd none) cs w) = .next (lone (fr fn (putA tmps o.dst undef) (.inRegion ops l :: k) (d :: ds) kd none) cs w') := step_lone_go (by
  have hf := fin_reg (fn := fn) (tmps := tmps) (k := k) (ds := d :: ds) (kd := kd) (rn := none) (l := l) ho undef .run
  rw [g_op ho hw (.inl rfl)]
  simp only [stepG.apply, Sem.runT_eq, hr, GStep.bare_after, if_true]
  rw [hf]; rfl)
theorem st_opEnter {ops : Array Oper} {i : Nat} {l : List Nat} {o : Oper} {f : Nat} {args : Array Value} (ho : ops[i]? = some o) (hw : Region.wanted o (yielded ops tmps) = true) (hd : rn = none ∨ ∀ c, o.op ≠ .defer c) (hr : (execOp (Act.eval ⟨tmps, []⟩) o).run P w = .ok (.enter f args) w') :
    step P (lone (fr fn tmps (.inRegion ops (i :: l) :: k) ds kd rn) cs w) = .next (lone (Frame.enter P f args .normal) (fr fn tmps (.inRegion ops (i :: l) :: k) ds kd rn :: cs) w') := step_lone_go (by
  rw [g_op ho hw hd]
  simp only [stepG.apply, Sem.runT_eq, hr, GStep.bare_after, if_true]
  rfl)
theorem st_opRound {ops : Array Oper} {i : Nat} {l : List Nat} {o : Oper} {lp f : Nat} {tm : Array Value} {a b : Code} (ho : ops[i]? = some o) (hw : Region.wanted o (yielded ops tmps) = true) (hd : rn = none ∨ ∀ c, o.op ≠ .defer c) (hr : (execOp (Act.eval ⟨tmps, []⟩) o).run P w = .ok (.round lp f tm a b) w') :
    step P (lone (fr fn tmps (.inRegion ops (i :: l) :: k) ds kd rn) cs w) = .next (lone (Frame.round lp f tm a b .normal) (fr fn tmps (.inRegion ops (i :: l) :: k) ds kd rn :: cs) w') := step_lone_go (by
  rw [g_op ho hw hd]
  simp only [stepG.apply, Sem.runT_eq, hr, GStep.bare_after, if_true]
  rfl)
end steps
end
end Go.Ev
