/- Contracts of functions of the program, walked, and plain laws. -/
import Derived.Test.YtncodmefagealaaGreatDoorEvMD
/- The step machine: its frames and the world's. -/
namespace Go.Ev
open Go Go.RowKit
noncomputable section

-- what an operation looks at
theorem looks_operand {ops : Array Oper} {o : Oper} {t : Nat} (h : Operand.tmp t ∈ o.op.operands.toList) : t ∈ o.looksAt ops :=
  List.mem_append_left _ (List.mem_filterMap.2 ⟨.tmp t, h, rfl⟩)
section congr
variable {P : Program} {f g : Nat → Option V} {h : H}
theorem ev_congr {x : Operand} (hx : ∀ t, x = .tmp t → f t = g t) : ev f x = ev g x := by
  cases x <;> first | rfl | exact hx _ rfl
theorem evs_congr : ∀ {l : List Operand}, (∀ x ∈ l, ev f x = ev g x) → evs f l = evs g l
  | [], _ => rfl
  | x :: l, hx => by simp only [evs, hx x (List.mem_cons_self ..), evs_congr fun y hy => hx y (List.mem_cons_of_mem _ hy)]
theorem evParts_congr : ∀ {l : List (Nat × Operand)}, (∀ x ∈ l, ev f x.2 = ev g x.2) → evParts f l = evParts g l
  | [], _ => rfl
  | x :: l, hx => by simp only [evParts, hx x (List.mem_cons_self ..), evParts_congr fun y hy => hx y (List.mem_cons_of_mem _ hy)]
theorem optNat_congr {x : Option Operand} {d : Nat} (hx : ∀ y, x = some y → ev f y = ev g y) : optNat f x d = optNat g x d := by
  cases x with
  | none => rfl
  | some y => simp only [optNat, hx y rfl]
theorem rd_congr {o : Oper} (hx : ∀ x ∈ o.op.operands.toList, ev f x = ev g x) : rd P f h o = rd P g h o := by
  obtain ⟨dst, op, type, pos, after, guard⟩ := o
  dsimp only at hx
  cases op <;> simp only [Op.operands] at hx <;> simp only [rd]
  case move x => exact hx x (by simp)
  case pick c a b => rw [hx c (by simp), hx a (by simp), hx b (by simp)]
  case build t ps => rw [evParts_congr (g := g) fun x hm => hx x.2 (by simp; exact ⟨x.1, by simpa using hm⟩)]
  case load t a => rw [hx a (by simp)]
  case nilCheck x => rw [hx x (by simp)]
  case binOp op t x y yt => rw [hx x (by simp), hx y (by simp)]
  case unOp op t x => rw [hx x (by simp)]
  case convert s d x => rw [hx x (by simp)]
  case makeInterface t x => rw [hx x (by simp)]
  case makeFunc fn first cap =>
    have e1 : evs f first.toList = evs g first.toList := evs_congr fun x hm => hx x (by simp; exact .inl (by simpa using hm))
    have e2 : evs f cap.toList = evs g cap.toList := evs_congr fun x hm => hx x (by simp; exact .inr (by simpa using hm))
    cases fn <;> simp only [e1, e2]
  case fieldAddr t x i => rw [hx x (by simp)]
  case field t x i => rw [hx x (by simp)]
  case indexAddr t x i => rw [hx x (by simp), hx i (by simp)]
  case index t x i => rw [hx x (by simp), hx i (by simp)]
  case lookup t x i ok => rw [hx x (by simp), hx i (by simp)]
  case typeAssert x t a ok => rw [hx x (by simp)]
  case extract x i => rw [hx x (by simp)]
  case slice t x lo hi mx =>
    have e1 : ∀ d, optNat f lo d = optNat g lo d := fun d => optNat_congr fun y hy => hx y (by subst hy; simp)
    have e2 : ∀ d, optNat f hi d = optNat g hi d := fun d => optNat_congr fun y hy => hx y (by subst hy; simp)
    have e3 : ∀ d, optNat f mx d = optNat g mx d := fun d => optNat_congr fun y hy => hx y (by subst hy; simp)
    rw [hx x (by simp)]
    cases mx <;> simp only [sliceAtV, sliceV, e1, e2, e3]
  case entry it => rw [hx it (by simp)]
  case call c =>
    obtain ⟨callee, args, ats⟩ := c
    have ha : ∀ x ∈ args.toList, ev f x = ev g x := fun x hm => hx x (by simp [Call.operands]; exact .inr (by simpa using hm))
    have e1 := evs_congr ha
    cases callee <;> simp only
    rename_i b
    cases b <;> simp only [e1]
    all_goals
      cases hargs : args.toList with
      | nil => rfl
      | cons x l =>
        rw [hargs] at ha
        cases ats.toList with
        | nil => rfl
        | cons t ts => simp only [ha x (List.mem_cons_self ..)]
end congr

/-- What stands ahead in a frame. -/
inductive RegL (ops : Array Oper) : List Nat → List Oper → Prop
  | nil : RegL ops [] []
  | cons (i : Nat) (o : Oper) (l : List Nat) (rest : List Oper) (ho : ops[i]? = some o) (h : RegL ops l rest) : RegL ops (i :: l) (o :: rest)
theorem regL_from {ops : Array Oper} : ∀ (k i : Nat), i + k = ops.size → RegL ops (List.range' i k) (ops.toList.drop i)
  | 0, i, h => by rw [List.drop_eq_nil_of_le (by simp; omega)]; exact .nil
  | k + 1, i, h => by
    have hlt : i < ops.size := by omega
    rw [List.range'_succ, List.drop_eq_getElem_cons (by simpa using hlt)]
    exact .cons i _ _ _ (by simp [hlt]) (regL_from k (i + 1) (by omega))
theorem regL_all (ops : Array Oper) : RegL ops (List.range ops.size) ops.toList := by
  have := regL_from (ops := ops) ops.size 0 (by omega)
  rw [List.range_eq_range']; simpa using this
inductive IR (r : Ren) : AI → Item → Prop
  | code (c : Code) : IR r (.code c) (.code c)
  | inBlock (id : Nat) : IR r (.inBlock id) (.inBlock id)
  | inLoop (b : Code) : IR r (.inLoop b) (.inLoop b)
  | inScope (b : Code) : IR r (.inScope b) (.inScope b)
  | reg (ops : Array Oper) (rest : List Oper) (l : List Nat) (h : RegL ops l rest) : IR r (.reg ops rest) (.inRegion ops l)
  | inRF (l c : Nat) (h : r.at_ l = some c) : IR r (.inRF l) (.inRangeFunc c)
  | endRF (l c : Nat) (h : r.at_ l = some c) : IR r (.endRF l) (.endRangeFunc c)
  | beginRound : IR r .beginRound .beginRound
inductive IRs (r : Ren) : List AI → List Item → Prop
  | nil : IRs r [] []
  | cons (a : AI) (b : Item) (x : List AI) (y : List Item) (h : IR r a b) (k : IRs r x y) : IRs r (a :: x) (b :: y)
theorem IR.mono {r s : Ren} (hl : r.le s) {a : AI} {b : Item} (h : IR r a b) : IR s a b := by
  cases h with
  | code c => exact .code c
  | inBlock i => exact .inBlock i
  | inLoop b => exact .inLoop b
  | inScope b => exact .inScope b
  | reg ops rest l h => exact .reg ops rest l h
  | inRF l c h => exact .inRF l c (hl _ _ h).1
  | endRF l c h => exact .endRF l c (hl _ _ h).1
  | beginRound => exact .beginRound
theorem IRs.mono {r s : Ren} (hl : r.le s) : ∀ {a : List AI} {b : List Item}, IRs r a b → IRs s a b
  | _, _, .nil => .nil
  | _, _, .cons a b x y h k => .cons a b x y (h.mono hl) (IRs.mono hl k)
inductive ADRs (r : Ren) : List AD → List Deferred → Prop
  | nil : ADRs r [] []
  | cons (a : AD) (b : Deferred) (x : List AD) (y : List Deferred) (h : ADR r a b) (k : ADRs r x y) : ADRs r (a :: x) (b :: y)
theorem ADRs.mono {r s : Ren} (hl : r.le s) : ∀ {a : List AD} {b : List Deferred}, ADRs r a b → ADRs s a b
  | _, _, .nil => .nil
  | _, _, .cons a b x y h k => .cons a b x y (h.mono hl) (ADRs.mono hl k)

/-- Does an operation give now what the machine says that it gave? -/
def Stab (P : Program) (ops : Array Oper) (tm : T V) (h : H) (o : Oper) : Prop := same1 P ops tm h o = true
theorem wantedA_congr {ops : Array Oper} {f g : Nat → Option V} {o : Oper} (hx : ∀ t, t ∈ o.looksAt ops → f t = g t) : wantedA ops f o = wantedA ops g o := by
  unfold wantedA
  cases hg : o.guard with
  | none => rfl
  | some p =>
    obtain ⟨j, want⟩ := p
    dsimp only
    cases hj : ops[j]? with
    | none => rfl
    | some oj =>
      dsimp only
      cases hd : oj.dst with
      | none => rfl
      | some d =>
        dsimp only
        rw [hx d (List.mem_append_right _ (by rw [hg]; simp [hj, hd]))]
/-- Of the slots what an operation looks at. -/
def seen (ops : Array Oper) (o : Oper) (tm : T V) (t : Nat) : Option V := if t ∈ o.looksAt ops then tm.get t else none
theorem seen_congr {ops : Array Oper} {o : Oper} {tm tm' : T V} (hx : ∀ t, t ∈ o.looksAt ops → tm'.get t = tm.get t) : seen ops o tm' = seen ops o tm := by
  funext t
  unfold seen
  by_cases h : t ∈ o.looksAt ops
  · rw [if_pos h, if_pos h, hx t h]
  · rw [if_neg h, if_neg h]
/-- What an operation that lays a block has brought the machine; the world may still have to do it. -/
def AlSt (P : Program) (w0 : Base) (dp : Nat) (ops : Array Oper) (tm : T V) (j : Nat) (o : Oper) : Prop :=
  (wantedA ops tm.get o = some false ∧ ∀ d, o.dst = some d → tm.get d = some (.tup [])) ∨
  (wantedA ops tm.get o = some true ∧ ∃ b ao g, w0.pend b = some (ao, dp, j) ∧ (∀ d, o.dst = some d → tm.get d = some (g b)) ∧
    ∀ (r : Ren) (w : World) (ρ : Operand → Value), ER r (seen ops o tm) ρ → LayOut P r w (execOp ρ o) ao g)
theorem AlSt.congr {P : Program} {w0 w1 : Base} {dp : Nat} {ops : Array Oper} {tm tm' : T V} {j : Nat} {o : Oper} (h : AlSt P w0 dp ops tm j o) (hp : ∀ b ao, w0.pend b = some (ao, dp, j) → w1.pend b = some (ao, dp, j))
    (h1 : ∀ t, t ∈ o.looksAt ops → tm'.get t = tm.get t) (h2 : ∀ d, o.dst = some d → tm'.get d = tm.get d) : AlSt P w1 dp ops tm' j o := by
  rcases h with ⟨a, b⟩ | ⟨a, b, ao, g, c, d, e⟩
  · exact .inl ⟨by rw [wantedA_congr h1]; exact a, fun d hd => by rw [h2 d hd]; exact b d hd⟩
  · exact .inr ⟨by rw [wantedA_congr h1]; exact a, b, ao, g, hp _ _ c, fun x hx => by rw [h2 x hx]; exact d x hx, fun r w ρ hr => e r w ρ (by rw [← seen_congr h1]; exact hr)⟩
/-- A region that draws its order, in the midst: the machine is ahead of the world by what only reads and what lays a block. -/
structure DR (P : Program) (w0 : Base) (dp : Nat) (r : Ren) (ops : Array Oper) (plan : List PS) (ex pot : List Nat) (L : Nat → Bool) (tm : T V) (n : Nat) (tmps : Array Value) (l : List Nat) : Prop where
  plan : PlanOk P ops plan ex pot
  fol : Fol ops L l
  shut : Shut ops L
  sub : ∀ j, L j = true → j ∈ ex
  pend : ∀ j, j ∈ ex → L j = false → j ∈ pot
  potex : ∀ j, j ∈ pot → j ∈ ex
  rdp : ∀ j, j ∈ pot → ∃ o, ops[j]? = some o ∧ (reads P o = true ∨ lays o = true)
  looks : ∀ j o j' o' d, j ∈ pot → ops[j]? = some o → j' ∈ pot → ops[j']? = some o' → o'.dst = some d → d ∈ o.looksAt ops → Dep ops j' j
  size : tmps.size = n
  tms : ∀ t v, tm.get t = some v → (∀ j o, j ∈ pot → L j = false → ops[j]? = some o → o.dst ≠ some t) → ∃ x, tmps[t]? = some x ∧ VR r v x
  alp : ∀ j o, j ∈ pot → L j = false → ops[j]? = some o → lays o = true → AlSt P w0 dp ops tm j o ∧ ∀ k, k < ops.size → k ∉ ex → Later ops o k
theorem DR.mono {P : Program} {w0 w1 : Base} {dp : Nat} {r s : Ren} (hl : r.le s) (hp : ∀ b ao j, w0.pend b = some (ao, dp, j) → w1.pend b = some (ao, dp, j)) {ops : Array Oper} {plan : List PS} {ex pot : List Nat} {L : Nat → Bool} {tm : T V} {n : Nat} {tmps : Array Value} {l : List Nat} (h : DR P w0 dp r ops plan ex pot L tm n tmps l) : DR P w1 dp s ops plan ex pot L tm n tmps l :=
  { h with tms := fun t v hv he => let ⟨x, hx, hr⟩ := h.tms t v hv he; ⟨x, hx, hr.mono hl⟩
           alp := fun j o hj hL ho hla => let ⟨a, b⟩ := h.alp j o hj hL ho hla; ⟨a.congr (fun b ao => hp b ao j) (fun _ _ => rfl) (fun _ _ => rfl), b⟩ }
/-- What was to come in other frames is still to come. -/
def PdOk (dp : Nat) (p q : Nat → Option (AObj × Nat × Nat)) : Prop := ∀ b ao e j, p b = some (ao, e, j) → e ≠ dp → q b = some (ao, e, j)
theorem PdOk.refl (dp : Nat) (p : Nat → Option (AObj × Nat × Nat)) : PdOk dp p p := fun _ _ _ _ h _ => h
theorem PdOk.trans {dp : Nat} {p q u : Nat → Option (AObj × Nat × Nat)} (h : PdOk dp p q) (k : PdOk dp q u) : PdOk dp p u := fun b ao e j hb he => k b ao e j (h b ao e j hb he) he
theorem isRd_of {P : Program} {ops : Array Oper} {j : Nat} {o : Oper} (ho : ops[j]? = some o) (hr : reads P o = true) : isRd P ops j = true := by
  unfold isRd; rw [ho]; exact hr
theorem opersOf_mem {ops : Array Oper} : ∀ {l : List Nat} {rs : List Oper}, opersOf ops l = some rs → ∀ j ∈ l, ∃ o, ops[j]? = some o ∧ o ∈ rs
  | [], _, _, j, hj => by cases hj
  | i :: l, rs, h, j, hj => by
    simp only [opersOf] at h
    split at h
    · cases h
    rename_i o ho
    split at h
    · cases h
    rename_i m hm
    cases h
    rcases List.mem_cons.1 hj with rfl | hj
    · exact ⟨o, ho, List.mem_cons_self ..⟩
    · obtain ⟨o', ho', hmem⟩ := opersOf_mem hm j hj
      exact ⟨o', ho', List.mem_cons_of_mem _ hmem⟩
theorem recheck_ok {P : Program} {ops : Array Oper} {tm : T V} {h : H} : ∀ {l : List Oper}, recheck P ops tm h l = true → ∀ o ∈ l, Stab P ops tm h o
  | [], _, o, ho => by cases ho
  | a :: l, hr, o, ho => by
    simp only [recheck] at hr
    split at hr
    · rename_i hs
      rcases List.mem_cons.1 ho with rfl | ho
      · exact hs
      · exact recheck_ok hr o ho
    · cases hr
theorem recheck_rd {P : Program} {ops : Array Oper} {tm : T V} {h : H} {pot : List Nat} {rc : List Oper} (hrc : opersOf ops (pot.filter (isRd P ops)) = some rc) (hr : recheck P ops tm h rc = true) :
    ∀ j ∈ pot, ∀ o, ops[j]? = some o → reads P o = true → Stab P ops tm h o := fun j hj o ho hre => by
  obtain ⟨o', ho', hmem⟩ := opersOf_mem hrc j (List.mem_filter.2 ⟨hj, isRd_of ho hre⟩)
  rw [ho] at ho'; cases ho'
  exact recheck_ok hr _ hmem
end
end Go.Ev
/- The step machine: single steps of the world's machine. -/
namespace Go.Ev
open Go Go.RowKit
noncomputable section
section steps
variable {P : Program} {fn : Nat} {tmps : Array Value} {k : List Item} {ds : List Deferred} {kd : CallKind} {rn : Option Nat} {cs : List Frame} {w w' : World}
abbrev fr (fn : Nat) (tmps : Array Value) (k : List Item) (ds : List Deferred) (kd : CallKind) (rn : Option Nat) : Frame := { fn, tmps, todo := k, defers := ds, mode := .run, kind := kd, roundOf := rn }

theorem eval_eq (f : Frame) : f.eval = Act.eval ⟨f.tmps, []⟩ := by funext x; cases x <;> rfl
theorem st_skip : step P (lone (fr fn tmps (.code .skip :: k) ds kd rn) cs w) = .next (lone (fr fn tmps k ds kd rn) cs w) := step_lone_go (by simp [stepG, stepG.exec])
theorem st_label {l : Nat} : step P (lone (fr fn tmps (.code (.label l) :: k) ds kd rn) cs w) = .next (lone (fr fn tmps k ds kd rn) cs w) := step_lone_go (by simp [stepG, stepG.exec])
theorem st_inBlock {l : Nat} : step P (lone (fr fn tmps (.inBlock l :: k) ds kd rn) cs w) = .next (lone (fr fn tmps k ds kd rn) cs w) := step_lone_go (by simp [stepG, stepG.exec])
theorem st_inScope {b : Code} : step P (lone (fr fn tmps (.inScope b :: k) ds kd rn) cs w) = .next (lone (fr fn tmps k ds kd rn) cs w) := step_lone_go (by simp [stepG, stepG.exec])
theorem st_seq {a b : Code} : step P (lone (fr fn tmps (.code (.seq a b) :: k) ds kd rn) cs w) = .next (lone (fr fn tmps (.code a :: .code b :: k) ds kd rn) cs w) := step_lone_go (by simp [stepG, stepG.exec])
theorem st_cond {c : Operand} {a b : Code} {t : Bool} (h : Act.eval ⟨tmps, []⟩ c = .bool t) : step P (lone (fr fn tmps (.code (.cond c a b) :: k) ds kd rn) cs w) = .next (lone (fr fn tmps (.code (if t then a else b) :: k) ds kd rn) cs w) := step_lone_go (by
  have e := congrFun (eval_eq (fr fn tmps (.code (.cond c a b) :: k) ds kd rn)) c
  simp only at e
  simp [stepG, stepG.exec, e, h])
theorem st_block {id : Nat} {b : Code} : step P (lone (fr fn tmps (.code (.block id b) :: k) ds kd rn) cs w) = .next (lone (fr fn tmps (.code b :: .inBlock id :: k) ds kd rn) cs w) := step_lone_go (by simp [stepG, stepG.exec])
theorem st_loop {b : Code} : step P (lone (fr fn tmps (.code (.loop b) :: k) ds kd rn) cs w) = .next (lone (fr fn tmps (.code b :: .inLoop b :: k) ds kd rn) cs w) := step_lone_go (by simp [stepG, stepG.exec])
theorem st_inLoop {b : Code} : step P (lone (fr fn tmps (.inLoop b :: k) ds kd rn) cs w) = .next (lone (fr fn tmps (.code b :: .inLoop b :: k) ds kd rn) cs w) := step_lone_go (by simp [stepG, stepG.exec])
theorem st_scope {b : Code} : step P (lone (fr fn tmps (.code (.scope b) :: k) ds kd rn) cs w) = .next (lone (fr fn tmps (.code b :: .inScope b :: k) ds kd rn) cs w) := step_lone_go (by simp [stepG, stepG.exec])
theorem st_exit {id : Nat} {k' : List Item} (h : exitTo id k = some k') : step P (lone (fr fn tmps (.code (.exit id) :: k) ds kd rn) cs w) = .next (lone (fr fn tmps k' ds kd rn) cs w) := step_lone_go (by simp [stepG, stepG.exec, h])
theorem st_goto {id : Nat} {k' : List Item} (h : gotoIn id k = some k') : step P (lone (fr fn tmps (.code (.goto id) :: k) ds kd rn) cs w) = .next (lone (fr fn tmps k' ds kd rn) cs w) := step_lone_go (by simp [stepG, stepG.exec, h])
theorem st_ret : step P (lone (fr fn tmps (.code .ret :: k) ds kd none) cs w) = .next (lone { fr fn tmps (.code .ret :: k) ds kd none with mode := .returning } cs w) := step_lone_go (by simp [stepG, stepG.exec])
theorem st_end : step P (lone (fr fn tmps [] ds kd none) cs w) = .next (lone { fr fn tmps [] ds kd none with mode := .returning } cs w) := step_lone_go (by simp [stepG, stepG.exec])
theorem st_region {id : Nat} {ops : Array Oper} : step P (lone (fr fn tmps (.code (.region id ops false) :: k) ds kd rn) cs w) = .next (lone (fr fn tmps (.inRegion ops (List.range ops.size) :: k) ds kd rn) cs w) := step_lone_go (by simp [stepG, stepG.exec])
theorem st_draw {id : Nat} {ops : Array Oper} : ∃ t, step P (lone (fr fn tmps (.code (.region id ops true) :: k) ds kd rn) cs w) = .next (lone (fr fn tmps (.inRegion ops (Region.schedule (P.follows .mixedOrders) ops t) :: k) ds kd rn) cs w.drew) :=
  ⟨_, step_lone_go (by simp [stepG, stepG.exec, choose, Sem.run, Question.forced, Question.cut]; rfl)⟩
theorem st_regEnd {ops : Array Oper} : step P (lone (fr fn tmps (.inRegion ops [] :: k) ds kd rn) cs w) = .next (lone (fr fn tmps k ds kd rn) cs w) := step_lone_go (by simp [stepG, stepG.exec])
def putA (tmps : Array Value) (dst : Option Nat) (v : Value) : Array Value :=
  match dst with
  | some d => tmps.setIfInBounds d v
  | none => tmps
theorem fin_reg {ops : Array Oper} {i : Nat} {l : List Nat} {o : Oper} (ho : ops[i]? = some o) (v : Value) (m : FrameMode) : Frame.finish { fr fn tmps (.inRegion ops (i :: l) :: k) ds kd rn with mode := m } v = { fr fn (putA tmps o.dst v) (.inRegion ops l :: k) ds kd rn with mode := m } := by
  simp only [Frame.finish, ho, Option.bind_some, putA]
  cases o.dst <;> rfl
theorem st_opSkip {ops : Array Oper} {i : Nat} {l : List Nat} {o : Oper} (ho : ops[i]? = some o) (hw : Region.wanted o (yielded ops tmps) = false) :
    step P (lone (fr fn tmps (.inRegion ops (i :: l) :: k) ds kd rn) cs w) = .next (lone (fr fn (putA tmps o.dst undef) (.inRegion ops l :: k) ds kd rn) cs w) := step_lone_go (by
  have hf := fin_reg (fn := fn) (tmps := tmps) (k := k) (ds := ds) (kd := kd) (rn := rn) (l := l) ho undef .run
  simp only [stepG, stepG.exec, ho, Option.map_some, Option.getD_some, hw, Bool.false_eq_true, if_false]
  rw [hf]; rfl)
theorem g_op {ops : Array Oper} {i : Nat} {l : List Nat} {o : Oper} (ho : ops[i]? = some o) (hw : Region.wanted o (yielded ops tmps) = true) (hd : rn = none ∨ ∀ c, o.op ≠ .defer c) :
    stepG P true { frame := fr fn tmps (.inRegion ops (i :: l) :: k) ds kd rn, callers := cs, status := .running, dying := none } w = stepG.apply P true (fr fn tmps (.inRegion ops (i :: l) :: k) ds kd rn) cs none (execOp (Act.eval ⟨tmps, []⟩) o) w := by
  have e := eval_eq (fr fn tmps (.inRegion ops (i :: l) :: k) ds kd rn)
  simp only at e
  simp only [stepG, stepG.exec, ho, Option.map_some, Option.getD_some, hw, if_true, stepG.oper, Frame.oper?]
  rw [e]
  rcases hd with rfl | hd
  · rfl
  · cases rn with
    | none => rfl
    | some r => cases hop : o.op <;> first | rfl | exact absurd hop (hd _)
theorem st_opVal {ops : Array Oper} {i : Nat} {l : List Nat} {o : Oper} {x : Value} (ho : ops[i]? = some o) (hw : Region.wanted o (yielded ops tmps) = true) (hd : rn = none ∨ ∀ c, o.op ≠ .defer c) (hr : (execOp (Act.eval ⟨tmps, []⟩) o).run P w = .ok (.value x) w') :
    step P (lone (fr fn tmps (.inRegion ops (i :: l) :: k) ds kd rn) cs w) = .next (lone (fr fn (putA tmps o.dst x) (.inRegion ops l :: k) ds kd rn) cs w') := step_lone_go (by
  have hf := fin_reg (fn := fn) (tmps := tmps) (k := k) (ds := ds) (kd := kd) (rn := rn) (l := l) ho x .run
  rw [g_op ho hw hd]
  simp only [stepG.apply, Sem.runT_eq, hr, GStep.bare_after, if_true]
  rw [hf]; rfl)
theorem st_opSkp {ops : Array Oper} {i : Nat} {l : List Nat} {o : Oper} (ho : ops[i]? = some o) (hw : Region.wanted o (yielded ops tmps) = true) (hd : rn = none ∨ ∀ c, o.op ≠ .defer c) (hr : (execOp (Act.eval ⟨tmps, []⟩) o).run P w = .ok .skip w') :
    step P (lone (fr fn tmps (.inRegion ops (i :: l) :: k) ds kd rn) cs w) = .next (lone (fr fn (putA tmps o.dst undef) (.inRegion ops l :: k) ds kd rn) cs w') := step_lone_go (by
  have hf := fin_reg (fn := fn) (tmps := tmps) (k := k) (ds := ds) (kd := kd) (rn := rn) (l := l) ho undef .run
  rw [g_op ho hw hd]
  simp only [stepG.apply, Sem.runT_eq, hr, GStep.bare_after, if_true]
  rw [hf]; rfl)
theorem st_opDefer {ops : Array Oper} {i : Nat} {l : List Nat} {o : Oper} {d : Deferred} (ho : ops[i]? = some o) (hw : Region.wanted o (yielded ops tmps) = true) (hr : (execOp (Act.eval ⟨tmps, []⟩) o).run P w = .ok (.defer d) w') :
    step P (lone (fr fn tmps (.inRegion ops (i :: l) :: k) ds kd none) cs w) = .next (lone (fr fn (putA tmps o.dst undef) (.inRegion ops l :: k) (d :: ds) kd none) cs w') := step_lone_go (by
  have hf := fin_reg (fn := fn) (tmps := tmps) (k := k) (ds := d :: ds) (kd := kd) (rn := none) (l := l) ho undef .run
  rw [g_op ho hw (.inl rfl)]
  simp only [stepG.apply, Sem.runT_eq, hr, GStep.bare_after, if_true]
  rw [hf]; rfl)
theorem st_opEnter {ops : Array Oper} {i : Nat} {l : List Nat} {o : Oper} {f : Nat} {args : Array Value} (ho : ops[i]? = some o) (hw : Region.wanted o (yielded ops tmps) = true) (hd : rn = none ∨ ∀ c, o.op ≠ .defer c) (hr : (execOp (Act.eval ⟨tmps, []⟩) o).run P w = .ok (.enter f args) w') :
    step P (lone (fr fn tmps (.inRegion ops (i :: l) :: k) ds kd rn) cs w) = .next (lone (Frame.enter P f args .normal) (fr fn tmps (.inRegion ops (i :: l) :: k) ds kd rn :: cs) w') := step_lone_go (by
  rw [g_op ho hw hd]
  simp only [stepG.apply, Sem.runT_eq, hr, GStep.bare_after, if_true]
  rfl)
theorem st_opRound {ops : Array Oper} {i : Nat} {l : List Nat} {o : Oper} {lp f : Nat} {tm : Array Value} {a b : Code} (ho : ops[i]? = some o) (hw : Region.wanted o (yielded ops tmps) = true) (hd : rn = none ∨ ∀ c, o.op ≠ .defer c) (hr : (execOp (Act.eval ⟨tmps, []⟩) o).run P w = .ok (.round lp f tm a b) w') :
    step P (lone (fr fn tmps (.inRegion ops (i :: l) :: k) ds kd rn) cs w) = .next (lone (Frame.round lp f tm a b .normal) (fr fn tmps (.inRegion ops (i :: l) :: k) ds kd rn :: cs) w') := step_lone_go (by
  rw [g_op ho hw hd]
  simp only [stepG.apply, Sem.runT_eq, hr, GStep.bare_after, if_true]
  rfl)
end steps
end
end Go.Ev
/- The step machine: single steps of the world's machine: leaving, deferred calls, rounds. -/
namespace Go.Ev
open Go Go.RowKit
noncomputable section
section steps
variable {P : Program} {fn : Nat} {tmps : Array Value} {k : List Item} {ds : List Deferred} {kd : CallKind} {rn : Option Nat} {cs : List Frame} {w w' : World}

theorem st_opRecover {ops : Array Oper} {i : Nat} {l : List Nat} {o : Oper} (ho : ops[i]? = some o) (hw : Region.wanted o (yielded ops tmps) = true) (hr : (execOp (Act.eval ⟨tmps, []⟩) o).run P w = .ok .recover w')
    (ht : tryRecover (fr fn tmps (.inRegion ops (i :: l) :: k) ds kd none) cs = none) :
    step P (lone (fr fn tmps (.inRegion ops (i :: l) :: k) ds kd none) cs w) = .next (lone (fr fn (putA tmps o.dst .nilIface) (.inRegion ops l :: k) ds kd none) cs w') := step_lone_go (by
  have hf := fin_reg (fn := fn) (tmps := tmps) (k := k) (ds := ds) (kd := kd) (rn := none) (l := l) ho .nilIface .run
  rw [g_op ho hw (.inl rfl)]
  simp only [stepG.apply, Sem.runT_eq, hr, GStep.bare_after, if_true, ht]
  rw [hf]; rfl)
theorem st_mark {c : Nat} (h0 : w.heap[c]? = some (.deferred (some []))) {k : List Item} :
    step P (lone { fr fn tmps k ({ target := .collected c, args := #[] } :: ds) kd rn with mode := .returning } cs w) = .next (lone { fr fn tmps k ds kd rn with mode := .returning } cs { w with heap := w.heap.setIfInBounds c (.deferred none) }) := step_lone_go (by
  have hrun : (Instr.takeDeferred c).run P w = .ok [] { w with heap := w.heap.setIfInBounds c (.deferred none) } := by
    simp [Instr.takeDeferred, getObj_run (P := P) h0 (by intros; simp), setObj_run (P := P) h0 (by intros; simp), Result.andThen]
  simp [stepG, unwind, Sem.runT_eq, hrun, GStep.bare_after])
theorem endRound_run {l : Nat} {lp : Loop} (h0 : w.heap[l]? = some (.loop lp)) (j : Option Code) : (Instr.endRound l j).run P w = .ok (.bool j.isNone) { w with heap := w.heap.setIfInBounds l (.loop { lp with state := if j.isNone then .ready else .done, pending := j }) } := by
  simp [Instr.endRound, Instr.getLoop, getObj_run (P := P) h0 (by intros; simp), setObj_run (P := P) h0 (by intros; simp), Result.andThen]
theorem st_leaveEnd {l : Nat} {lp : Loop} {c : Frame} (h0 : w.heap[l]? = some (.loop lp)) :
    step P (lone (fr fn tmps [] ds .normal (some l)) (c :: cs) w) = .next (lone (c.finish (.bool true)) cs { w with heap := w.heap.setIfInBounds l (.loop { lp with state := .ready, pending := none }) }) := step_lone_go (by
  have hr := endRound_run (P := P) h0 none
  simp [stepG, stepG.exec, Sem.runT_eq, hr, GStep.bare_after, doReturn])
theorem st_leaveRet {l : Nat} {lp : Loop} {c : Frame} (h0 : w.heap[l]? = some (.loop lp)) :
    step P (lone (fr fn tmps (.code .ret :: k) ds .normal (some l)) (c :: cs) w) = .next (lone (c.finish (.bool false)) cs { w with heap := w.heap.setIfInBounds l (.loop { lp with state := .done, pending := some .ret }) }) := step_lone_go (by
  have hr := endRound_run (P := P) h0 (some .ret)
  simp [stepG, stepG.exec, Sem.runT_eq, hr, GStep.bare_after, doReturn])
theorem st_leaveExit {l id : Nat} {lp : Loop} {c : Frame} (h0 : w.heap[l]? = some (.loop lp)) (he : exitTo id k = none) :
    step P (lone (fr fn tmps (.code (.exit id) :: k) ds .normal (some l)) (c :: cs) w) = .next (lone (c.finish (.bool false)) cs { w with heap := w.heap.setIfInBounds l (.loop { lp with state := .done, pending := some (.exit id) }) }) := step_lone_go (by
  have hr := endRound_run (P := P) h0 (some (.exit id))
  simp [stepG, stepG.exec, he, Sem.runT_eq, hr, GStep.bare_after, doReturn])
theorem st_leaveGoto {l id : Nat} {lp : Loop} {c : Frame} (h0 : w.heap[l]? = some (.loop lp)) (he : gotoIn id k = none) :
    step P (lone (fr fn tmps (.code (.goto id) :: k) ds .normal (some l)) (c :: cs) w) = .next (lone (c.finish (.bool false)) cs { w with heap := w.heap.setIfInBounds l (.loop { lp with state := .done, pending := some (.goto id) }) }) := step_lone_go (by
  have hr := endRound_run (P := P) h0 (some (.goto id))
  simp [stepG, stepG.exec, he, Sem.runT_eq, hr, GStep.bare_after, doReturn])
theorem st_beginRound {l : Nat} {lp : Loop} (h0 : w.heap[l]? = some (.loop lp)) (hs : lp.state = .ready) :
    step P (lone (fr fn tmps (.beginRound :: k) ds kd (some l)) cs w) = .next (lone (fr fn tmps k ds kd (some l)) cs { w with heap := w.heap.setIfInBounds l (.loop { lp with state := .busy }) }) := step_lone_go (by
  have hr : (Instr.beginRound l).run P w = .ok () { w with heap := w.heap.setIfInBounds l (.loop { lp with state := .busy }) } := by
    simp [Instr.beginRound, Instr.getLoop, getObj_run (P := P) h0 (by intros; simp), setObj_run (P := P) h0 (by intros; simp), Result.andThen, hs]
  have hr2 : (do (some l).elim (stuck "beginRound: no round") Instr.beginRound; pure .skip : Sem Next).run P w = .ok .skip { w with heap := w.heap.setIfInBounds l (.loop { lp with state := .busy }) } := by
    simp [hr, Result.andThen]
  simp only [stepG, stepG.exec, stepG.apply, Sem.runT_eq, hr2, GStep.bare_after, if_true]
  rfl)
theorem st_endRF {l : Nat} {lp : Loop} (h0 : w.heap[l]? = some (.loop lp)) (hs : lp.state ≠ .busy) :
    step P (lone (fr fn tmps (.endRangeFunc l :: k) ds kd rn) cs w) = .next (lone (fr fn tmps ((lp.pending.map Item.code).toList ++ k) ds kd rn) cs { w with heap := w.heap.setIfInBounds l (.loop { lp with state := .exhausted }) }) := step_lone_go (by
  have hb : (lp.state == LoopState.busy) = false := by simpa using hs
  have hr : (Instr.endLoop l).run P w = .ok lp.pending { w with heap := w.heap.setIfInBounds l (.loop { lp with state := .exhausted }) } := by
    simp [Instr.endLoop, Instr.getLoop, getObj_run (P := P) h0 (by intros; simp), setObj_run (P := P) h0 (by intros; simp), Result.andThen, hs]
  simp [stepG, stepG.exec, Sem.runT_eq, hr, GStep.bare_after])
theorem st_rangeFunc {f : Operand} {params : Array Tmp} {a b : Code} {g : Nat} {p q : List Value} (hf : Act.eval ⟨tmps, []⟩ f = .func (.func g) ⟨p⟩ ⟨q⟩)
    (hg : ∀ d : World, ∀ args : Array Value, (callFunc g args).run P d = .ok (.enter g args) d) :
    step P (lone (fr fn tmps (.code (.rangeFunc f params a b) :: k) ds kd none) cs w) =
      .next (lone (Frame.enter P g ⟨p ++ .func (.yield (w.heap.size + 1)) #[] #[] :: q⟩ .normal)
        (fr fn tmps (.inRangeFunc (w.heap.size + 1) :: k) ({ target := .collected w.heap.size, args := #[] } :: ds) kd none :: cs)
        ((w.alloc (.deferred (some []))).alloc (.loop { state := .ready, pending := none, fn := fn, tmps := tmps, params := params, assign := a, body := b, defers := w.heap.size }))) := step_lone_go (by
  have h1 : (Instr.enterLoop fn tmps params a b none).run P w = .ok (w.heap.size + 1, [{ target := .collected w.heap.size, args := #[] }]) ((w.alloc (.deferred (some []))).alloc (.loop { state := .ready, pending := none, fn := fn, tmps := tmps, params := params, assign := a, body := b, defers := w.heap.size })) := by
    simp [Instr.enterLoop, Result.andThen]
  have e := fun t d => congrFun (eval_eq (fr fn tmps t d kd none)) f
  have h2 : ∀ t d (W : World), ((do let d ← resolve (fr fn tmps t d kd none).eval { callee := .value f, args := #[.const (.func (.yield (w.heap.size + 1)) #[] #[])], argTypes := #[] } 0; invoke d.target d.args) : Sem Next).run P W = .ok (.enter g ⟨p ++ .func (.yield (w.heap.size + 1)) #[] #[] :: q⟩) W := by
    intro t d W
    have e1 := e t d
    simp only at e1
    have hv : (fr fn tmps t d kd none).eval (.const (.func (.yield (w.heap.size + 1)) #[] #[])) = .func (.yield (w.heap.size + 1)) #[] #[] := rfl
    simp only [resolve, e1, hf, Deferred.ofValue, Sem.run_bind, Sem.run_pure, andThen_ok, invoke]
    rw [hg]
    congr 2
    apply Array.ext'
    simp [hv]
  simp only [stepG, stepG.exec, Sem.runT_eq, h1, GStep.bare_after, List.singleton_append]
  have h3 := h2 (.inRangeFunc (w.heap.size + 1) :: k) ({ target := .collected w.heap.size, args := #[] } :: ds)
  simp only [stepG.apply, Sem.runT_eq, h3, GStep.bare_after, if_true]
  rfl)
end steps
end
end Go.Ev
/- The step machine: regions that draw their order, walked. -/
namespace Go.Ev
open Go Go.RowKit
noncomputable section
section congr
variable {P : Program} {f g : Nat → Option V} {h : H} {β : Type} {no : β} {kv : V → H → β} {kc kr : Nat → List V → β} {kd : AD → β} {kn : β}
theorem actK_congr {o : Oper} (hx : ∀ x ∈ o.op.operands.toList, ev f x = ev g x) : actK P f h o no kv kc kr kd kn = actK P g h o no kv kc kr kd kn := by
  obtain ⟨dst, op, type, pos, after, guard⟩ := o
  dsimp only at hx
  cases op <;> simp only [Op.operands] at hx <;> simp only [actK]
  case assign x => rw [hx x (by simp)]
  case store t a x => rw [hx a (by simp), hx x (by simp)]
  case box t x => rw [hx x (by simp)]
  case buildSlice t n ps => rw [evParts_congr (g := g) fun x hm => hx x.2 (by simp; exact ⟨x.1, by simpa using hm⟩)]
  case makeSlice t l c => rw [hx l (by simp), hx c (by simp)]
  case makeMap t r =>
    cases r with
    | none => rfl
    | some x => simp only [hx x (by simp)]
  case mapUpdate t m k x => rw [hx m (by simp), hx k (by simp), hx x (by simp)]
  case insert t m k x => rw [hx m (by simp), hx k (by simp), hx x (by simp)]
  case range t x => rw [hx x (by simp)]
  case next it b => rw [hx it (by simp)]
  case convert s d x => rw [hx x (by simp)]
  case defer c =>
    obtain ⟨callee, args, ats⟩ := c
    have ha : ∀ x ∈ args.toList, ev f x = ev g x := fun x hm => hx x (by simp [Call.operands]; exact .inr (by simpa using hm))
    have e1 := evs_congr ha
    cases callee <;> simp only [e1]
    rename_i y
    rw [hx y (by simp [Call.operands])]
  case call c =>
    obtain ⟨callee, args, ats⟩ := c
    have ha : ∀ x ∈ args.toList, ev f x = ev g x := fun x hm => hx x (by simp [Call.operands]; exact .inr (by simpa using hm))
    have e1 := evs_congr ha
    cases callee with
    | value y => simp only [e1, hx y (by simp [Call.operands])]
    | invoke y m => simp only [e1, hx y (by simp [Call.operands])]
    | builtin b => cases b <;> simp only [e1]
end congr
section walk
variable {P : Program} {w0 : Base} {w : World} {r : Ren} {h : H} {ops : Array Oper} {tm : T V} {tmps : Array Value}

/-- The slots that an operation looks at stand for one another. -/
def LR (r : Ren) (ops : Array Oper) (o : Oper) (tm : T V) (tmps : Array Value) : Prop := ∀ t, t ∈ o.looksAt ops → ∀ v, tm.get t = some v → ∃ x, tmps[t]? = some x ∧ VR r v x
theorem TR.lr {n : Nat} {o : Oper} (h : TR r tm n tmps) : LR r ops o tm tmps := fun t _ v hv => h.at_ t v hv
theorem wanted_ok {o : Oper} (hl : LR r ops o tm tmps) {b : Bool} (hw : wantedA ops tm.get o = some b) : Region.wanted o (yielded ops tmps) = b := by
  unfold wantedA at hw
  unfold Region.wanted
  split at hw
  · rename_i hg; cases hw; rw [hg]
  · rename_i j want hg
    rw [hg]
    dsimp only
    unfold yielded
    split at hw
    · rename_i hj; cases hw; rw [hj]; rfl
    · rename_i oj hj
      split at hw
      · rename_i hd; cases hw; rw [hj]; simp [hd]
      · rename_i d hd
        have hlk : d ∈ o.looksAt ops := List.mem_append_right _ (by rw [hg]; simp [hj, hd])
        split at hw
        · rename_i bb hv
          cases hw
          obtain ⟨x, hx, hvr⟩ := hl d hlk _ hv
          rw [hj]; simp only [Option.bind_some, hd, hx, hvr.bool_inv]
          cases bb <;> cases want <;> rfl
        · cases hw
        · rename_i v hnb hnu hv
          cases hw
          obtain ⟨x, hx, hvr⟩ := hl d hlk _ hv
          rw [hj]; simp only [Option.bind_some, hd, hx]
          cases hvr <;> first | rfl | exact absurd rfl (hnb _) | exact absurd rfl hnu
        · cases hw
theorem er_of {o : Oper} (hr : HR P w0 r h w) (hl : LR r ops o tm tmps) : ER r (seen ops o tm) (Act.eval ⟨tmps, []⟩) :=
  ER.of hr fun t v hv => by
    unfold seen at hv
    split at hv
    · rename_i hm; exact hl t hm v hv
    · cases hv
theorem ev_same {o : Oper} : ∀ x ∈ o.op.operands.toList, ev tm.get x = ev (seen ops o tm) x := fun x hx =>
  ev_congr fun t ht => by subst ht; unfold seen; rw [if_pos (looks_operand hx)]
theorem rd_step {o : Oper} (hr : HR P w0 r h w) (hl : LR r ops o tm tmps) {v : V} (hd : rd P tm.get h o = some v) : ∃ x, VR r v x ∧ (execOp (Act.eval ⟨tmps, []⟩) o).run P w = .ok (.value x) w :=
  rd_ok hr (er_of hr hl) (by rw [← rd_congr (ev_same (ops := ops) (tm := tm))]; exact hd)
theorem act_step {o : Oper} (hr : HR P w0 r h w) (hl : LR r ops o tm tmps) {kv : V → H → Option S} {kc kr : Nat → List V → Option S} {kd : AD → Option S} {kn : Option S} {res : S} (hk : actK P tm.get h o none kv kc kr kd kn = some res) :
    ActOut P w0 r h w (execOp (Act.eval ⟨tmps, []⟩) o) res kv kc kr kd kn :=
  act_ok hr (er_of hr hl) (by rw [← actK_congr (ev_same (ops := ops) (tm := tm))]; exact hk)
theorem reads_noDefer {o : Oper} (h : reads P o = true) : ∀ c, o.op ≠ .defer c := fun c e => by
  unfold reads at h; rw [e] at h; cases h
theorem putA_size (d : Option Nat) (x : Value) : (putA tmps d x).size = tmps.size := by cases d <;> simp [putA]
theorem putA_get {d : Option Nat} {x : Value} {t : Nat} : (putA tmps d x)[t]? = if d = some t ∧ t < tmps.size then some x else tmps[t]? := by
  cases d with
  | none => simp [putA]
  | some d =>
    by_cases h : d = t
    · subst h
      by_cases hl : d < tmps.size
      · simp [putA, hl]
      · simp [putA, hl]
    · simp [putA, h, Array.getElem?_setIfInBounds_ne]
theorem lays_noDefer {o : Oper} (h : lays o = true) : ∀ c, o.op ≠ .defer c := fun c e => by
  unfold lays at h; rw [e] at h; cases h
/-- An operation that was outstanding has been carried out by the world. -/
theorem DR.did {dp : Nat} {plan : List PS} {ex pot : List Nat} {L : Nat → Bool} {n j : Nat} {l : List Nat} {o : Oper} {x : Value} (hd : DR P w0 dp r ops plan ex pot L tm n tmps (j :: l)) (hj : j ∈ ex) (ho : ops[j]? = some o)
    (hfol' : Fol ops (fun i => i == j || L i) l) (hdeps : ∀ e ∈ o.after.toList, Region.binds .any e = true → L e.on = true) (hlt : ∀ d, o.dst = some d → d < n)
    (hx : ∀ d, o.dst = some d → ∃ v, tm.get d = some v ∧ VR r v x) : DR P w0 dp r ops plan ex pot (fun i => i == j || L i) tm n (putA tmps o.dst x) l :=
    { plan := hd.plan
      fol := hfol'
      shut := fun i oi hoi hi e he hb => by
        rw [Bool.or_eq_true] at hi ⊢
        rcases hi with hi | hi
        · have : i = j := by simpa using hi
          subst this
          rw [ho] at hoi; cases hoi
          exact .inr (hdeps e he hb)
        · exact .inr (hd.shut i oi hoi hi e he hb)
      sub := fun i hi => by
        rw [Bool.or_eq_true] at hi
        rcases hi with hi | hi
        · have : i = j := by simpa using hi
          subst this; exact hj
        · exact hd.sub i hi
      pend := fun i hi hL => by
        rw [Bool.or_eq_false_iff] at hL
        exact hd.pend i hi hL.2
      potex := hd.potex
      rdp := hd.rdp
      looks := hd.looks
      size := by rw [putA_size]; exact hd.size
      alp := fun i oi hi hL hoi hla => by
        rw [Bool.or_eq_false_iff] at hL
        exact hd.alp i oi hi hL.2 hoi hla
      tms := fun t v hv hno => by
        rw [putA_get]
        by_cases hdt : o.dst = some t
        · obtain ⟨v', hv', hvr⟩ := hx t hdt
          rw [hv] at hv'; cases hv'
          have hlt : t < tmps.size := by rw [hd.size]; exact hlt t hdt
          exact ⟨x, by rw [if_pos ⟨hdt, hlt⟩], hvr⟩
        · rw [if_neg (fun hh => hdt hh.1)]
          refine hd.tms t v hv fun i oi hi hL hoi => ?_
          by_cases hij : i = j
          · subst hij; rw [ho] at hoi; cases hoi; exact hdt
          · exact hno i oi hi (by rw [Bool.or_eq_false_iff]; exact ⟨by simpa using hij, hL⟩) hoi }
/-- What is outstanding is made up for: one operation. -/
theorem drain1 {dp : Nat} {plan : List PS} {ex pot : List Nat} {L : Nat → Bool} {n j : Nat} {l : List Nat} {fn : Nat} {k : List Item} {ds : List Deferred} {kd : CallKind} {rn : Option Nat} {cs : List Frame}
    (hr : HR P w0 r h w) (hd : DR P w0 dp r ops plan ex pot L tm n tmps (j :: l)) (hj : j ∈ ex) (hst : ∀ i ∈ pot, ∀ o, ops[i]? = some o → reads P o = true → Stab P ops tm h o)
    (hdl : ∀ i ∈ pot, ∀ o d, ops[i]? = some o → o.dst = some d → d < n) :
    ∃ tmps' pd r' w', step P (lone (fr fn tmps (.inRegion ops (j :: l) :: k) ds kd rn) cs w) = .next (lone (fr fn tmps' (.inRegion ops l :: k) ds kd rn) cs w') ∧ HR P ⟨w0.w, w0.at0, w0.far, pd⟩ r' h w' ∧ r.le r' ∧ PdOk dp w0.pend pd ∧
      DR P ⟨w0.w, w0.at0, w0.far, pd⟩ dp r' ops plan ex pot (fun i => i == j || L i) tm n tmps' l := by
  have hfol := hd.fol
  cases hfol with
  | cons _ o _ _ ho hn hdeps hfol' =>
  have hjp := hd.pend j hj hn
  obtain ⟨o', ho', hrl⟩ := hd.rdp j hjp
  rw [ho] at ho'; cases ho'
  -- what it looks at is there
  have hlr : LR r ops o tm tmps := fun t ht v hv => hd.tms t v hv fun j' o' hj' hL' ho' he => by
    have hdep := hd.looks j o j' o' t hjp ho hj' ho' he ht
    have := hdep.ahead hd.shut ho hdeps
    rw [hL'] at this; cases this
  have hltd := hdl j hjp o
  by_cases hreads : reads P o = true
  · have hstab := hst j hjp o ho hreads
    unfold Stab same1 at hstab
    split at hstab
    · cases hstab
    · rename_i hw
      have hw' := wanted_ok hlr hw
      refine ⟨_, w0.pend, r, w, st_opSkip ho hw', hr, Ren.le_refl r, .refl _ _, hd.did (x := undef) hj ho hfol' hdeps (fun d hdd => hltd d ho hdd) fun d hdd => ?_⟩
      rw [hdd] at hstab
      dsimp only at hstab
      split at hstab
      · rename_i hv; exact ⟨_, hv, .tup [] [] .nil⟩
      · cases hstab
    · rename_i hw
      have hw' := wanted_ok hlr hw
      split at hstab
      · cases hstab
      rename_i v hv
      obtain ⟨x, hvr, hrun⟩ := rd_step hr hlr hv
      refine ⟨_, w0.pend, r, w, st_opVal ho hw' (.inr (reads_noDefer hreads)) hrun, hr, Ren.le_refl r, .refl _ _, hd.did (x := x) hj ho hfol' hdeps (fun d hdd => hltd d ho hdd) fun d hdd => ?_⟩
      rw [hdd] at hstab
      dsimp only at hstab
      split at hstab
      · cases hstab
      · rename_i u hu
        exact ⟨u, hu, by rw [← beqV_ok hstab]; exact hvr⟩
  · have hla : lays o = true := hrl.resolve_left hreads
    obtain ⟨hal, hlater⟩ := hd.alp j o hjp hn ho hla
    rcases hal with ⟨hw, hv⟩ | ⟨hw, b, ao, g, hpb, hv, hlay⟩
    · exact ⟨_, w0.pend, r, w, st_opSkip ho (wanted_ok hlr hw), hr, Ren.le_refl r, .refl _ _, hd.did (x := undef) hj ho hfol' hdeps (fun d hdd => hltd d ho hdd) fun d hdd => ⟨_, hv d hdd, .tup [] [] .nil⟩⟩
    · obtain ⟨obj, x, hrun, hor⟩ := hlay r w _ (er_of hr hlr)
      have hle := Ren.ext_le (c := w.heap.size) (k := 0) (hr.keep b _ hpb).2.1
      obtain ⟨hO, hV⟩ := hor b _ hle (Ren.ext_at ..) (Ren.ext_sh ..)
      obtain ⟨hr', _⟩ := hr.name hpb obj 0 hO
      refine ⟨_, _, _, _, st_opVal ho (wanted_ok hlr hw) (.inr (lays_noDefer hla)) hrun, hr', hle, fun c ao' e i hc he => ?_, ?_⟩
      · have : c ≠ b := fun hh => by subst hh; rw [hpb] at hc; cases hc; exact he rfl
        show (if c = b then none else w0.pend c) = _
        rw [if_neg this]; exact hc
      · have hd0 : DR P w0 dp (r.ext b w.heap.size 0) ops plan ex pot L tm n tmps (j :: l) := hd.mono hle fun _ _ _ h => h
        have hd2 := hd0.did (x := x) hj ho hfol' hdeps (fun d hdd => hltd d ho hdd) fun d hdd => ⟨_, hv d hdd, hV⟩
        refine { hd2 with alp := ?_ }
        intro i oi hi hL hoi hla'
        obtain ⟨a1, a2⟩ := hd2.alp i oi hi hL hoi hla'
        refine ⟨a1.congr (fun c ao' hc => ?_) (fun _ _ => rfl) (fun _ _ => rfl), a2⟩
        have hij : i ≠ j := fun e => by
          subst e; simp at hL
        have : c ≠ b := fun hh => by subst hh; rw [hpb] at hc; cases hc; exact hij rfl
        show (if c = b then none else w0.pend c) = _
        rw [if_neg this]; exact hc
end walk
end
end Go.Ev
/- The step machine goes with the world's machine. -/
namespace Go.Ev
open Go Go.RowKit
noncomputable section

structure FB (r : Ren) (a : AF) (f : Frame) : Prop where
  fn : f.fn = a.fn
  dfs : ADRs r a.dfs f.defers
  mode : f.mode = if a.ret then .returning else .run
  kind : f.kind = if a.dk then .deferred else .normal
  rnd : optAt r a.rnd f.roundOf
theorem optAt.mono {r s : Ren} (hl : r.le s) {m m' : Option Nat} (h : optAt r m m') : optAt s m m' := by
  cases m with
  | none => exact h
  | some m => obtain ⟨c, hc, he⟩ := h; exact ⟨c, (hl _ _ hc).1, he⟩
theorem FB.mono {r s : Ren} (hl : r.le s) {a : AF} {f : Frame} (h : FB r a f) : FB s a f := ⟨h.fn, h.dfs.mono hl, h.mode, h.kind, h.rnd.mono hl⟩
/-- A region that draws its order, held at an operation that acts and has been begun. -/
structure HD (P : Program) (w0 : Base) (dp : Nat) (r : Ren) (ops : Array Oper) (o : Oper) (rc : List Oper) (plan : List PS) (ex pot : List Nat) (L : Nat → Bool) (i : Nat) (tm : T V) (n : Nat) (tmps : Array Value) (l : List Nat) : Prop where
  ho : ops[i]? = some o
  hrc : opersOf ops (pot.filter (isRd P ops)) = some rc
  plan : PlanOk P ops plan (i :: ex) pot
  fol : Fol ops (fun j => j == i || L j) l
  shut : Shut ops (fun j => j == i || L j)
  sub : ∀ j, L j = true → j ∈ ex
  noi : i ∉ ex
  pend : ∀ j, j ∈ ex → L j = false → j ∈ pot
  potex : ∀ j, j ∈ pot → j ∈ ex
  rdp : ∀ j, j ∈ pot → ∃ o, ops[j]? = some o ∧ (reads P o = true ∨ lays o = true)
  looks : ∀ j o j' o' d, j ∈ pot → ops[j]? = some o → j' ∈ pot → ops[j']? = some o' → o'.dst = some d → d ∈ o.looksAt ops → Dep ops j' j
  size : tmps.size = n
  tms : ∀ t v, tm.get t = some v → (∀ j o, j ∈ pot → L j = false → ops[j]? = some o → o.dst ≠ some t) → ∃ x, tmps[t]? = some x ∧ VR r v x
  lr : LR r ops o tm tmps
  dl : ∀ i ∈ pot, ∀ o d, ops[i]? = some o → o.dst = some d → d < n
  alp : ∀ j o, j ∈ pot → L j = false → ops[j]? = some o → lays o = true → AlSt P w0 dp ops tm j o ∧ ∀ k, k < ops.size → k ∉ ex → Later ops o k
theorem HD.mono {P : Program} {w0 w1 : Base} {dp : Nat} {r s : Ren} (hl : r.le s) (hp : ∀ b ao j, w0.pend b = some (ao, dp, j) → w1.pend b = some (ao, dp, j)) {ops : Array Oper} {o : Oper} {rc : List Oper} {plan : List PS} {ex pot : List Nat} {L : Nat → Bool} {i : Nat} {tm : T V} {n : Nat} {tmps : Array Value} {l : List Nat}
    (h : HD P w0 dp r ops o rc plan ex pot L i tm n tmps l) : HD P w1 dp s ops o rc plan ex pot L i tm n tmps l :=
  { h with tms := fun t v hv he => let ⟨x, hx, hr⟩ := h.tms t v hv he; ⟨x, hx, hr.mono hl⟩
           lr := fun t ht v hv => let ⟨x, hx, hr⟩ := h.lr t ht v hv; ⟨x, hx, hr.mono hl⟩
           alp := fun j o hj hL ho hla => let ⟨a, b⟩ := h.alp j o hj hL ho hla; ⟨a.congr (fun b ao => hp b ao j) (fun _ _ => rfl) (fun _ _ => rfl), b⟩ }
/-- The operation has ended. -/
theorem HD.fin {P : Program} {w0 : Base} {dp : Nat} {r : Ren} {ops : Array Oper} {o : Oper} {rc : List Oper} {plan : List PS} {ex pot : List Nat} {L : Nat → Bool} {i : Nat} {tm tm' : T V} {n : Nat} {tmps : Array Value} {l : List Nat}
    (h : HD P w0 dp r ops o rc plan ex pot L i tm n tmps l) {v : V} {x : Value} (hv : VR r v x) (ht : (o.dst = none ∧ tm' = tm) ∨ ∃ d, o.dst = some d ∧ d < n ∧ tm' = tm.set d v) :
    DR P w0 dp r ops plan (i :: ex) pot (fun j => j == i || L j) tm' n (putA tmps o.dst x) l where
  plan := h.plan
  fol := h.fol
  shut := h.shut
  sub := fun j hj => by
    rw [Bool.or_eq_true] at hj
    rcases hj with hj | hj
    · have : j = i := by simpa using hj
      subst this; exact List.mem_cons_self ..
    · exact List.mem_cons_of_mem _ (h.sub j hj)
  pend := fun j hj hL => by
    rw [Bool.or_eq_false_iff] at hL
    rcases List.mem_cons.1 hj with rfl | hj
    · simp at hL
    · exact h.pend j hj hL.2
  potex := fun j hj => List.mem_cons_of_mem _ (h.potex j hj)
  rdp := h.rdp
  looks := h.looks
  size := by rw [putA_size]; exact h.size
  alp := fun j oj hj hL hoj hla => by
    rw [Bool.or_eq_false_iff] at hL
    obtain ⟨a1, a2⟩ := h.alp j oj hj hL.2 hoj hla
    refine ⟨?_, fun q hq hqe => a2 q hq fun hh => hqe (List.mem_cons_of_mem _ hh)⟩
    have hi := a2 i (Array.getElem?_eq_some_iff.1 h.ho).1 h.noi
    rcases ht with ⟨_, rfl⟩ | ⟨d, hd, _, rfl⟩
    · exact a1
    · obtain ⟨g1, g2⟩ := hi o d h.ho hd
      refine a1.congr (fun _ _ hc => hc) (fun t ht => ?_) (fun t ht => ?_)
      · rw [T.get_set, if_neg (fun (e : t = d) => g1 (e ▸ ht))]
      · rw [T.get_set, if_neg (fun (e : t = d) => g2 (e ▸ ht))]
  tms := fun t u hu hno => by
    have hno' : ∀ j o, j ∈ pot → L j = false → ops[j]? = some o → o.dst ≠ some t := fun j o hj hL ho => hno j o hj (by
      rw [Bool.or_eq_false_iff]
      refine ⟨?_, hL⟩
      have : j ≠ i := fun e => h.noi (e ▸ h.potex j hj)
      simpa using this) ho
    rw [putA_get]
    rcases ht with ⟨hd, rfl⟩ | ⟨d, hd, hlt, rfl⟩
    · rw [hd, if_neg (by simp)]; exact h.tms t u hu hno'
    · rw [T.get_set] at hu
      by_cases he : t = d
      · subst he
        rw [if_pos rfl] at hu; cases hu
        exact ⟨x, by rw [if_pos ⟨hd, by rw [h.size]; exact hlt⟩], hv⟩
      · rw [if_neg he] at hu
        rw [if_neg (fun hh => he (by rw [hd] at hh; exact (Option.some.inj hh.1).symm))]
        exact h.tms t u hu hno'

inductive FTop (P : Program) (w0 : Base) (dp : Nat) (r : Ren) (h : H) (a : AF) (f : Frame) : Prop
  | plain (fb : FB r a f) (tr : TR r a.tm a.n f.tmps) (it : IRs r a.todo f.todo)
  | drawn (fb : FB r a f) (hrun : a.ret = false) (ops : Array Oper) (plan : List PS) (td : List AI) (ex pot : List Nat) (L : Nat → Bool) (l : List Nat) (k : List Item) (ha : a.todo = .dreg ops plan :: td) (hf : f.todo = .inRegion ops l :: k)
      (dr : DR P w0 dp r ops plan ex pot L a.tm a.n f.tmps l) (st : ∀ i ∈ pot, ∀ o, ops[i]? = some o → reads P o = true → Stab P ops a.tm h o) (dl : ∀ i ∈ pot, ∀ o d, ops[i]? = some o → o.dst = some d → d < a.n) (it : IRs r td k)
inductive FHeld (P : Program) (w0 : Base) (dp : Nat) (r : Ren) (a : AF) (f : Frame) : Prop
  | plain (fb : FB r a f) (tr : TR r a.tm a.n f.tmps) (it : IRs r a.todo f.todo)
  | held (fb : FB r a f) (hrun : a.ret = false) (ops : Array Oper) (o : Oper) (rc : List Oper) (plan : List PS) (td : List AI) (ex pot : List Nat) (L : Nat → Bool) (i : Nat) (l : List Nat) (k : List Item) (ha : a.todo = .dreg ops (.act o rc :: plan) :: td) (hf : f.todo = .inRegion ops (i :: l) :: k)
      (hd : HD P w0 dp r ops o rc plan ex pot L i a.tm a.n f.tmps l) (it : IRs r td k)
theorem FHeld.mono {P : Program} {w0 w1 : Base} {dp : Nat} {r s : Ren} (hl : r.le s) (hp : ∀ b ao j, w0.pend b = some (ao, dp, j) → w1.pend b = some (ao, dp, j)) {a : AF} {f : Frame} (h : FHeld P w0 dp r a f) : FHeld P w1 dp s a f := by
  cases h with
  | plain fb tr it => exact .plain (fb.mono hl) (tr.mono hl) (it.mono hl)
  | held fb hrun ops o rc plan td ex pot L i l k ha hf hd it => exact .held (fb.mono hl) hrun ops o rc plan td ex pot L i l k ha hf (hd.mono hl hp) (it.mono hl)
inductive FHs (P : Program) (w0 : Base) (r : Ren) : List AF → List Frame → Prop
  | nil : FHs P w0 r [] []
  | cons (a : AF) (f : Frame) (x : List AF) (y : List Frame) (h : FHeld P w0 x.length r a f) (k : FHs P w0 r x y) : FHs P w0 r (a :: x) (f :: y)
theorem FHs.pd {P : Program} {w0 w1 : Base} {r s : Ren} (hl : r.le s) {a : List AF} {b : List Frame} (hp : ∀ b ao e j, w0.pend b = some (ao, e, j) → e < a.length → w1.pend b = some (ao, e, j)) (h : FHs P w0 r a b) : FHs P w1 s a b := by
  induction h with
  | nil => exact .nil
  | cons a f x y h k ih =>
    exact .cons a f x y (h.mono hl fun b ao j hb => hp b ao _ j hb (by simp)) (ih fun b ao e j hb he => hp b ao e j hb (by simp only [List.length_cons]; omega))
theorem FHs.mono {P : Program} {w0 : Base} {r s : Ren} (hl : r.le s) {a : List AF} {b : List Frame} (h : FHs P w0 r a b) : FHs P w0 s a b := h.pd hl fun _ _ _ _ hb _ => hb
/-- The step machine's state and the world's machine. -/
structure Rep (P : Program) (w0 : Base) (tail : List Frame) (s : S) (f : Frame) (cs : List Frame) (w : World) (r : Ren) : Prop where
  hr : HR P w0 r s.h w
  top : FTop P w0 s.rest.length r s.h s.top f
  rest : ∃ ca, cs = ca ++ tail ∧ FHs P w0 r s.rest ca
/-- Goes on to. -/
def To (P : Program) (w0 : World) (a0 : Nat → Option Nat) (f0 : Nat → Option (Nat × Nat)) (tail : List Frame) (f : Frame) (cs : List Frame) (w : World) (s : S) : Prop := ∃ pd r f' cs' w', Steps P (lone f cs w) (lone f' cs' w') ∧ Rep P ⟨w0, a0, f0, pd⟩ tail s f' cs' w' r
section
variable {P : Program} {w0 : Base} {w : World} {r : Ren} {h : H} {tail : List Frame} {s' : S}
theorem putK_ok {tm : T V} {n : Nat} {d : Option Nat} {v : V} {k : T V → Option S} {res : S} (hk : putK tm n d v none k = some res) : ∃ tm', k tm' = some res ∧ ((d = none ∧ tm' = tm) ∨ ∃ e, d = some e ∧ e < n ∧ tm' = tm.set e v) := by
  unfold putK at hk
  split at hk
  · exact ⟨tm, hk, .inl ⟨rfl, rfl⟩⟩
  · rename_i e
    split at hk
    · rename_i hlt
      rw [T.setK_eq] at hk
      exact ⟨_, hk, .inr ⟨e, rfl, Nat.le_of_ble_eq_true hlt, rfl⟩⟩
    · cases hk
theorem TR.putA {tm tm' : T V} {n : Nat} {tmps : Array Value} {d : Option Nat} {v : V} {x : Value} (h : TR r tm n tmps) (hv : VR r v x) (ht : (d = none ∧ tm' = tm) ∨ ∃ e, d = some e ∧ e < n ∧ tm' = tm.set e v) : TR r tm' n (putA tmps d x) := by
  rcases ht with ⟨rfl, rfl⟩ | ⟨e, rfl, hlt, rfl⟩
  · exact h
  · exact h.put hlt hv
theorem fnI_spec {f n : Nat} {c : Code} (hf : fnI P f = some (n, c)) : ∃ fn, P.funcs[f]? = some fn ∧ fn.body = some c ∧ fn.ntmps = n ∧ ∀ (args : Array Value) (d : World), (callFunc f args).run P d = .ok (.enter f args) d := by
  unfold fnI at hf
  split at hf
  · rename_i fn hfn
    split at hf
    · rename_i c' hb
      split at hf
      · cases hf
      · rename_i hn
        cases hf
        refine ⟨fn, hfn, hb, rfl, fun args d => ?_⟩
        have hn' : ¬ fn.name = "runtime.NumGoroutine" := by simpa using hn
        simp [callFunc, hfn, hb, hn', Result.andThen]
    · cases hf
  · cases hf
/-- A call is entered. -/
theorem callN_ok {f n : Nat} {c : Code} {args : List V} {xs : List Value} {dk : Bool} {rest : List AF} {ca : List Frame} (hr : HR P w0 r h w) (hv : VRs r args xs) (hre : FHs P w0 r rest ca) (hf : fnI P f = some (n, c)) (hk : callN f n c args dk rest h = some s') :
    (∀ (d : World), (callFunc f ⟨xs⟩).run P d = .ok (.enter f ⟨xs⟩) d) ∧ Rep P w0 tail s' (Frame.enter P f ⟨xs⟩ (if dk then .deferred else .normal)) (ca ++ tail) w r := by
  unfold callN at hk
  obtain ⟨fn, hfn, hb, hn, hcall⟩ := fnI_spec hf
  split at hk
  · cases hk
  rename_i hlt
  have hlt := Nat.le_of_ble_eq_true hlt
  rw [setsK_eq] at hk
  cases hk
  refine ⟨fun d => hcall _ d, hr, .plain ⟨rfl, .nil, rfl, rfl, rfl⟩ ⟨?_, ?_⟩ ?_, ca, rfl, hre⟩
  · show (Frame.enter P f ⟨xs⟩ _).tmps.size = n
    have hl := hv.length
    simp [Frame.enter, hfn, hn]; omega
  · intro t v ht
    have ht' : (sets args .e 0).get t = some v := ht
    rw [get_sets] at ht'
    split at ht'
    · rename_i hc
      simp only [Nat.sub_zero] at ht'
      obtain ⟨x, hx, hvr⟩ := hv.get ht'
      refine ⟨x, ?_, hvr⟩
      show (Frame.enter P f ⟨xs⟩ _).tmps[t]? = some x
      have hlt2 := (List.getElem?_eq_some_iff.1 hx).1
      simp only [Frame.enter]
      rw [Array.getElem?_append_left (by simpa using hlt2)]
      simpa using hx
    · rw [T.get_e] at ht'; cases ht'
  · show IRs r [.code c] (Frame.enter P f ⟨xs⟩ _).todo
    simp only [Frame.enter, hfn, Option.bind_some, hb, Option.getD_some]
    exact .cons _ _ _ _ (.code c) .nil
theorem callK_ok {f : Nat} {args : List V} {xs : List Value} {dk : Bool} {rest : List AF} {ca : List Frame} (hr : HR P w0 r h w) (hv : VRs r args xs) (hre : FHs P w0 r rest ca) (hk : callK P f args dk rest h = some s') :
    (∀ (d : World), (callFunc f ⟨xs⟩).run P d = .ok (.enter f ⟨xs⟩) d) ∧ Rep P w0 tail s' (Frame.enter P f ⟨xs⟩ (if dk then .deferred else .normal)) (ca ++ tail) w r := by
  unfold callK at hk
  split at hk
  · cases hk
  · rename_i n c hf
    exact callN_ok hr hv hre hf hk
/-- A value comes back. -/
theorem finishK_ok {a : AF} {f : Frame} {v : V} {x : Value} {rest : List AF} {ca : List Frame} (hr : HR P w0 r h w) (hf : FHeld P w0 rest.length r a f) (hv : VR r v x) (hre : FHs P w0 r rest ca) (hrun : a.ret = false)
    (hk : finishK P a h v none (fun c => some ⟨c, rest, h⟩) = some s') : Rep P w0 tail s' (f.finish x) (ca ++ tail) w r := by
  obtain ⟨fn, n, tm, todo, dfs, ret, dk, rnd⟩ := a
  obtain ⟨ffn, ftmps, ftodo, fds, fmode, fkind, frn⟩ := f
  unfold finishK at hk
  dsimp only at hk
  cases hf with
  | plain fb tr it =>
    dsimp only at it tr
    obtain ⟨b1, b2, b3, b4, b5⟩ := fb
    dsimp only at b1 b2 b3 b4 b5
    split at hk
    · rename_i ops o rst td
      cases it with
      | cons _ b _ y hi hk' =>
      cases hi with
      | reg _ _ l hreg =>
      cases hreg with
      | cons i _ l' _ ho hreg' =>
      obtain ⟨tm', hk2, htm⟩ := putK_ok hk
      cases hk2
      refine ⟨hr, ?_, ca, rfl, hre⟩
      have := fin_reg (fn := ffn) (tmps := ftmps) (k := y) (ds := fds) (kd := fkind) (rn := frn) (l := l') ho x fmode
      simp only at this
      rw [this]
      exact .plain ⟨b1, b2, b3, b4, b5⟩ (tr.putA hv htm) (.cons _ _ _ _ (.reg _ _ _ hreg') hk')
    · rename_i ops o rc plan td
      cases it with
      | cons _ b _ y hi hk' => cases hi
    · rename_i l td
      cases it with
      | cons _ b _ y hi hk' =>
      cases hi with
      | inRF _ c hc =>
      cases hk
      exact ⟨hr, .plain ⟨b1, b2, b3, b4, b5⟩ tr (.cons _ _ _ _ (.endRF _ c hc) hk'), ca, rfl, hre⟩
    · cases hk
  | held fb _ ops o rc plan td ex pot L i l k ha hf hd it =>
    dsimp only at ha hf hd
    subst ha hf
    obtain ⟨b1, b2, b3, b4, b5⟩ := fb
    dsimp only at b1 b2 b3 b4 b5 hk
    obtain ⟨tm', hk2, htm⟩ := putK_ok hk
    split at hk2
    · rename_i hrec
      cases hk2
      refine ⟨hr, ?_, ca, rfl, hre⟩
      have := fin_reg (fn := ffn) (tmps := ftmps) (k := k) (ds := fds) (kd := fkind) (rn := frn) (l := l) hd.ho x fmode
      simp only at this
      rw [this]
      exact .drawn ⟨b1, b2, b3, b4, b5⟩ hrun ops plan td (i :: ex) pot _ l k rfl rfl (hd.fin hv htm) (recheck_rd hd.hrc hrec) hd.dl it
    · cases hk2
end
end
end Go.Ev
/- The step machine goes with the world's machine: control, leaving, rounds. -/
namespace Go.Ev
open Go Go.RowKit
noncomputable section
section
variable {P : Program} {w0 : Base} {w : World} {r : Ren} {h : H} {tail : List Frame} {s' : S}
abbrev kdOf (dk : Bool) : CallKind := if dk then .deferred else .normal
theorem FTop.plain_of {dp : Nat} {a : AF} {f : Frame} (ht : FTop P w0 dp r h a f) (hno : ∀ ops plan td, a.todo ≠ .dreg ops plan :: td) : ∃ tmps k ds rn, f = ⟨a.fn, tmps, k, ds, if a.ret then .returning else .run, kdOf a.dk, rn⟩ ∧ ADRs r a.dfs ds ∧ optAt r a.rnd rn ∧ TR r a.tm a.n tmps ∧ IRs r a.todo k := by
  cases ht with
  | plain fb tr it =>
    obtain ⟨ffn, ftmps, ftodo, fds, fmode, fkind, frn⟩ := f
    obtain ⟨b1, b2, b3, b4, b5⟩ := fb
    dsimp only at b1 b2 b3 b4 b5 tr it
    subst b1 b3 b4
    exact ⟨ftmps, ftodo, fds, frn, rfl, b2, b5, tr, it⟩
  | drawn fb hrun ops plan td ex pot L l k ha => exact absurd ha (hno ops plan td)
theorem to_run {r' : Ren} {h' : H} {w' : World} {f : Frame} {cs ca : List Frame} {fn n : Nat} {tm' : T V} {todo' : List AI} {dfs' : List AD} {dk : Bool} {rnd rn : Option Nat} {rest : List AF} {tmps' : Array Value} {k' : List Item} {ds' : List Deferred}
    (hs : step P (lone f cs w) = .next (lone (fr fn tmps' k' ds' (kdOf dk) rn) (ca ++ tail) w')) (hr : HR P w0 r' h' w') (tr : TR r' tm' n tmps') (it : IRs r' todo' k') (hd : ADRs r' dfs' ds') (hrn : optAt r' rnd rn) (hre : FHs P w0 r' rest ca) :
    To P w0.w w0.at0 w0.far tail f cs w ⟨⟨fn, n, tm', todo', dfs', false, dk, rnd⟩, rest, h'⟩ :=
  ⟨w0.pend, r', _, _, w', .one hs, hr, .plain ⟨rfl, hd, rfl, rfl, hrn⟩ tr it, ca, rfl, hre⟩
theorem exitA_ok {id : Nat} : ∀ {td : List AI} {k : List Item}, IRs r td k → (∀ td', exitA id td = some td' → ∃ k', exitTo id k = some k' ∧ IRs r td' k') ∧ (exitA id td = none → exitTo id k = none)
  | _, _, .nil => ⟨by simp [exitA], fun _ => rfl⟩
  | _, _, .cons a b x y hi hk => by
    obtain ⟨h1, h2⟩ := exitA_ok (id := id) hk
    cases hi with
    | inBlock id' =>
      simp only [exitA, exitTo]
      cases hb : Nat.beq id' id with
      | true =>
        have : (id' == id) = true := by simpa using Nat.eq_of_beq_eq_true hb
        simp only [this, if_true]
        exact ⟨fun td' he => by cases he; exact ⟨y, rfl, hk⟩, by simp⟩
      | false =>
        have : (id' == id) = false := by simpa using Nat.ne_of_beq_eq_false hb
        simp only [this, Bool.false_eq_true, if_false]
        exact ⟨h1, h2⟩
    | _ => simpa only [exitA, exitTo] using ⟨h1, h2⟩
theorem gotoA_ok {l : Nat} : ∀ {td : List AI} {k : List Item}, IRs r td k → (∀ td', gotoA l td = some td' → ∃ k', gotoIn l k = some k' ∧ IRs r td' k') ∧ (gotoA l td = none → gotoIn l k = none)
  | _, _, .nil => ⟨by simp [gotoA], fun _ => rfl⟩
  | _, _, .cons a b x y hi hk => by
    obtain ⟨h1, h2⟩ := gotoA_ok (l := l) hk
    cases hi with
    | inScope body =>
      simp only [gotoA, gotoIn]
      cases hf : findLabel body l with
      | none => exact ⟨h1, h2⟩
      | some c => exact ⟨fun td' he => by cases he; exact ⟨_, rfl, .cons _ _ _ _ (.code c) (.cons _ _ _ _ (.inScope body) hk)⟩, by simp⟩
    | _ => simpa only [gotoA, gotoIn] using ⟨h1, h2⟩
theorem HR.loop (hr : HR P w0 r h w) {b c d n fn : Nat} {st : LoopState} {pe : Option Code} {tm : T V} {ps : List Tmp} {x y : Code} (hb : h.t.get b = some (.loop st pe fn n tm ps x y d)) (hc : r.at_ b = some c) :
    ∃ tmps d', w.heap[c]? = some (.loop ⟨st, pe, fn, tmps, ps.toArray, x, y, d'⟩) ∧ TR r tm n tmps ∧ r.at_ d = some d' := by
  obtain ⟨c', hc', hO, _⟩ := hr.ob b _ hb rfl _ hc
  obtain rfl : c' = c := by rw [hc] at hc'; exact (Option.some.inj hc').symm
  exact hO
theorem HR.setLoop (hr : HR P w0 r h w) {b c d n fn : Nat} {st st' : LoopState} {pe pe' : Option Code} {tm : T V} {ps : List Tmp} {x y : Code} {tmps : Array Value} {d' : Nat} (hb : h.t.get b = some (.loop st pe fn n tm ps x y d)) (hc : r.at_ b = some c)
    (h0 : w.heap[c]? = some (.loop ⟨st, pe, fn, tmps, ps.toArray, x, y, d'⟩)) (ht : TR r tm n tmps) (hd : r.at_ d = some d') :
    HR P w0 r ⟨h.t.set b (.loop st' pe' fn n tm ps x y d), h.nx⟩ { w with heap := w.heap.setIfInBounds c (.loop ⟨st', pe', fn, tmps, ps.toArray, x, y, d'⟩) } := by
  have hlt : c < w.heap.size := (Array.getElem?_eq_some_iff.1 h0).1
  exact hr.upd (o' := .loop st' pe' fn n tm ps x y d) hb rfl rfl hc (Upd.setObj _) fun _ => ⟨tmps, d', by simp [hlt], ht, hd⟩
/-- A round is left. -/
theorem leave_ok {l : Nat} {dk : Bool} {jump : Option Code} {rest : List AF} {f : Frame} {ca : List Frame} {rn : Option Nat} (hr : HR P w0 r h w) (hrn : optAt r (some l) rn) (hre : FHs P w0 r rest ca) (hk : astep.leave P dk l jump rest h = some s')
    (hst : dk = false → ∀ c lp (x : Frame) (y : List Frame), rn = some c → w.heap[c]? = some (.loop lp) → step P (lone f (x :: y) w) = .next (lone (x.finish (.bool jump.isNone)) y { w with heap := w.heap.setIfInBounds c (.loop { lp with state := if jump.isNone then .ready else .done, pending := jump }) })) :
    To P w0.w w0.at0 w0.far tail f (ca ++ tail) w s' := by
  obtain ⟨c, hc, rfl⟩ := hrn
  unfold astep.leave at hk
  split at hk
  · cases hk
  split at hk
  · rename_i st pe fn n tm ps a b d hb
    obtain ⟨tmps, d', h0, ht, hd⟩ := hr.loop hb hc
    rw [T.setK_eq] at hk
    split at hk
    · cases hk
    · rename_i x rest'
      split at hk
      · cases hk
      · rename_i hret
        cases hre with
        | cons _ X _ Y hX hY =>
        have hstep := hst rfl c _ X (Y ++ tail) rfl h0
        cases jump with
        | none =>
          have hr2 := hr.setLoop (st' := .ready) (pe' := none) hb hc h0 ht hd
          exact ⟨w0.pend, r, _, _, _, .one hstep, finishK_ok hr2 hX (.bool true) hY hret hk⟩
        | some j =>
          have hr2 := hr.setLoop (st' := .done) (pe' := some j) hb hc h0 ht hd
          exact ⟨w0.pend, r, _, _, _, .one hstep, finishK_ok hr2 hX (.bool false) hY hret hk⟩
  · cases hk
/-- What a frame that leaves gives. -/
theorem resVs_ok (hr : HR P w0 r h w) {tm : T V} {n : Nat} {tmps : Array Value} (ht : TR r tm n tmps) : ∀ {l : List ResultVar} {vs : List V}, resVs P tm h l = some vs →
    ∃ xs : List Value, VRs r vs xs ∧ ∀ g : ResultVar → Sem Value, (∀ t, g (.tmp t) = pure (tmps.getD t undef)) → (∀ a t, g (.cell a t) = do loadVar t (← asAddr (tmps.getD a undef))) → (l.mapM g).run P w = .ok xs w
  | [], vs, h => by cases h; exact ⟨[], .nil, fun _ _ _ => rfl⟩
  | rv :: l, vs, h => by
    simp only [resVs] at h
    split at h
    · rename_i v hv
      split at h
      · rename_i m hm
        cases h
        obtain ⟨xs, hvs, hrun⟩ := resVs_ok hr ht hm
        have hget : ∀ t u, tm.get t = some u → VR r u (tmps.getD t undef) := fun t u hu => by
          obtain ⟨x, hx, hvr⟩ := ht.at_ t u hu
          rw [Array.getD_eq_getD_getElem?, hx]; exact hvr
        cases rv with
        | tmp t =>
          refine ⟨_, .cons _ _ _ _ (hget t v hv) hvs, fun g g1 g2 => ?_⟩
          simp only [List.mapM_cons, g1, Sem.run_bind, Sem.run_pure, andThen_ok, hrun g g1 g2]
        | cell a t =>
          simp only [resV] at hv
          split at hv
          · rename_i b off ha
            obtain ⟨c, hc, hcat⟩ := (hget a _ ha).ptr_inv
            obtain ⟨x, hx, hl⟩ := loadT_ok hr hcat hv
            refine ⟨_, .cons _ _ _ _ hx hvs, fun g g1 g2 => ?_⟩
            simp only [List.mapM_cons, g2, Sem.run_bind, Sem.run_pure, andThen_ok, hrun g g1 g2, hc, asAddr, hl]
          · cases hv
      · cases h
    · cases h
theorem results_ok (hr : HR P w0 r h w) {tm : T V} {n f : Nat} {tmps : Array Value} (ht : TR r tm n tmps) {v : V} (hv : results P f tm h = some v) : ∃ fn x, P.funcs[f]? = some fn ∧ VR r v x ∧ (Go.results fn tmps).run P w = .ok x w := by
  unfold results at hv
  split at hv
  · rename_i fn hfn
    split at hv
    · rename_i l hl
      cases hv
      obtain ⟨xs, hvs, hrun⟩ := resVs_ok hr ht hl
      refine ⟨fn, if h : (⟨xs⟩ : Array Value).size = 1 then (⟨xs⟩ : Array Value)[0] else .tuple ⟨xs⟩, hfn, ?_, ?_⟩
      · cases hvs with
        | nil => exact .tup [] [] .nil
        | cons v x a y hx hy =>
          cases hy with
          | nil => exact hx
          | cons v2 x2 a2 y2 hx2 hy2 => exact .tup _ _ (.cons _ _ _ _ hx (.cons _ _ _ _ hx2 hy2))
      · unfold Go.results
        rw [Array.mapM_eq_mapM_toList]
        simp only [Sem.run_bind, Sem.run_map]
        rw [hrun _ (fun _ => rfl) (fun _ _ => rfl)]
        simp only [andThen_ok, Sem.run_pure]
    · cases hv
  · cases hv
end
end
end Go.Ev
/- The step machine goes with the world's machine: regions. -/
namespace Go.Ev
open Go Go.RowKit
noncomputable section
section
variable {P : Program} {w0 : Base} {w : World} {r : Ren} {h : H} {tail : List Frame} {s' : S}
variable {ops : Array Oper} {tm : T V} {n : Nat} {fn : Nat} {k : List Item} {ds : List Deferred} {kd : CallKind} {rn : Option Nat} {cs : List Frame}

theorem drain_act {dp : Nat} {o : Oper} {rc : List Oper} {plan : List PS} {ex pot rcI : List Nat} {i : Nat} (ho : ops[i]? = some o) (hn : i ∉ ex)
    (h1 : ∀ j, j < ops.size → j ∉ ex → j ≠ i → Dep ops i j) (h2 : ∀ j, j ∈ pot → j ∈ rcI ∨ Dep ops j i) (h3 : ∀ j, j ∈ rcI → j ∈ pot) (h4 : ∀ j oj d, j ∈ rcI → ops[j]? = some oj → oj.dst = some d → d ∉ o.looksAt ops)
    (hrc : opersOf ops (rcI.filter (isRd P ops)) = some rc) (hp : PlanOk P ops plan (i :: ex) rcI) (hst : ∀ i ∈ pot, ∀ o, ops[i]? = some o → reads P o = true → Stab P ops tm h o) (hdl : ∀ i ∈ pot, ∀ o d, ops[i]? = some o → o.dst = some d → d < n) :
    ∀ (l : List Nat) (L : Nat → Bool) (tmps : Array Value) (w0 : Base) (r : Ren) (w : World), HR P w0 r h w → DR P w0 dp r ops (.act o rc :: plan) ex pot L tm n tmps l →
      ∃ tmps' l' L' pd r' w', Steps P (lone (fr fn tmps (.inRegion ops l :: k) ds kd rn) cs w) (lone (fr fn tmps' (.inRegion ops (i :: l') :: k) ds kd rn) cs w') ∧ HR P ⟨w0.w, w0.at0, w0.far, pd⟩ r' h w' ∧ r.le r' ∧ PdOk dp w0.pend pd ∧
        HD P ⟨w0.w, w0.at0, w0.far, pd⟩ dp r' ops o rc plan ex rcI L' i tm n tmps' l'
  | [], L, tmps, w0, r, w, hr, hd => by
    have hfol := hd.fol
    cases hfol with
    | nil _ hall =>
      have := hall i (Array.getElem?_eq_some_iff.1 ho).1
      exact absurd (hd.sub i this) hn
  | j :: l, L, tmps, w0, r, w, hr, hd => by
    by_cases hji : j = i
    · subst hji
      have hfol := hd.fol
      cases hfol with
      | cons _ o' _ _ ho' hLj hdeps hfol' =>
      rw [ho] at ho'; cases ho'
      have hpend : ∀ j', j' ∈ ex → L j' = false → j' ∈ rcI := fun j' hj' hL => by
        rcases h2 j' (hd.pend j' hj' hL) with h | h
        · exact h
        · have := h.ahead hd.shut ho hdeps; rw [hL] at this; cases this
      refine ⟨tmps, l, L, w0.pend, r, w, Steps.refl _ _, hr, Ren.le_refl r, .refl _ _, ?_⟩
      exact { ho := ho, hrc := hrc, plan := hp, fol := hfol', sub := hd.sub, noi := hn, pend := hpend, potex := fun j' hj' => hd.potex j' (h3 j' hj'), rdp := fun j' hj' => hd.rdp j' (h3 j' hj')
              looks := fun a oa b ob d ha hoa hb hob => hd.looks a oa b ob d (h3 a ha) hoa (h3 b hb) hob
              size := hd.size
              shut := fun a oa hoa ha e he hb => by
                rw [Bool.or_eq_true] at ha ⊢
                rcases ha with ha | ha
                · have : a = j := by simpa using ha
                  subst this; rw [ho] at hoa; cases hoa
                  exact .inr (hdeps e he hb)
                · exact .inr (hd.shut a oa hoa ha e he hb)
              tms := fun t v hv hno => hd.tms t v hv fun a oa ha hL hoa => hno a oa (hpend a (hd.potex a ha) hL) hL hoa
              lr := fun t ht v hv => hd.tms t v hv fun a oa ha hL hoa he => h4 a oa t (hpend a (hd.potex a ha) hL) hoa he ht
              dl := fun a ha oa d hoa hdd => hdl a (h3 a ha) oa d hoa hdd
              alp := fun a oa ha hL hoa hla => hd.alp a oa (h3 a ha) hL hoa hla }
    · have hj : j ∈ ex := by
        refine Classical.byContradiction fun hne => ?_
        have hfol := hd.fol
        cases hfol with
        | cons _ o' _ _ ho' hLj hdeps hfol' =>
        have hdep := h1 j (Array.getElem?_eq_some_iff.1 ho').1 hne hji
        exact hn (hd.sub i (hdep.ahead hd.shut ho' hdeps))
      obtain ⟨tmps', pd, r', w', hstep, hr', hle, hpd, hd'⟩ := drain1 (fn := fn) (k := k) (ds := ds) (kd := kd) (rn := rn) (cs := cs) hr hd hj hst hdl
      obtain ⟨tmps2, l2, L2, pd2, r2, w2, hs2, hr2, hle2, hpd2, hd2⟩ := drain_act ho hn h1 h2 h3 h4 hrc hp hst hdl l _ tmps' ⟨w0.w, w0.at0, w0.far, pd⟩ r' w' hr' hd'
      exact ⟨tmps2, l2, L2, pd2, r2, w2, .head hstep hs2, hr2, Ren.le_trans hle hle2, hpd.trans hpd2, hd2⟩
theorem drain_end {dp : Nat} {ex pot : List Nat} (hall : ∀ i, i < ops.size → i ∈ ex) (hst : ∀ i ∈ pot, ∀ o, ops[i]? = some o → reads P o = true → Stab P ops tm h o) (hdl : ∀ i ∈ pot, ∀ o d, ops[i]? = some o → o.dst = some d → d < n) :
    ∀ (l : List Nat) (L : Nat → Bool) (tmps : Array Value) (w0 : Base) (r : Ren) (w : World), HR P w0 r h w → DR P w0 dp r ops [] ex pot L tm n tmps l →
      ∃ tmps' pd r' w', Steps P (lone (fr fn tmps (.inRegion ops l :: k) ds kd rn) cs w) (lone (fr fn tmps' (.inRegion ops [] :: k) ds kd rn) cs w') ∧ HR P ⟨w0.w, w0.at0, w0.far, pd⟩ r' h w' ∧ r.le r' ∧ PdOk dp w0.pend pd ∧ TR r' tm n tmps'
  | [], L, tmps, w0, r, w, hr, hd => by
    have hfol := hd.fol
    cases hfol with
    | nil _ hL =>
      refine ⟨tmps, w0.pend, r, w, Steps.refl _ _, hr, Ren.le_refl r, .refl _ _, hd.size, fun t v hv => hd.tms t v hv fun j o hj hLj ho => ?_⟩
      have := hL j (Array.getElem?_eq_some_iff.1 ho).1
      rw [hLj] at this; cases this
  | j :: l, L, tmps, w0, r, w, hr, hd => by
    have hj : j ∈ ex := by
      have hfol := hd.fol
      cases hfol with
      | cons _ o' _ _ ho' _ _ _ => exact hall j (Array.getElem?_eq_some_iff.1 ho').1
    obtain ⟨tmps', pd, r', w', hstep, hr', hle, hpd, hd'⟩ := drain1 (fn := fn) (k := k) (ds := ds) (kd := kd) (rn := rn) (cs := cs) hr hd hj hst hdl
    obtain ⟨tmps2, pd2, r2, w2, hs2, hr2, hle2, hpd2, ht⟩ := drain_end hall hst hdl l _ tmps' ⟨w0.w, w0.at0, w0.far, pd⟩ r' w' hr' hd'
    exact ⟨tmps2, pd2, r2, w2, .head hstep hs2, hr2, Ren.le_trans hle hle2, hpd.trans hpd2, ht⟩
theorem params_ok {res : S} : ∀ {ps : List Nat} {vs : List V} {xs : List Value} {tm : T V} {tmps : Array Value} {kk : T V → Option S}, VRs r vs xs → TR r tm n tmps → paramsK n ps vs tm none kk = some res →
    ∃ tm', kk tm' = some res ∧ TR r tm' n ((ps.zip xs).foldl (fun t p => t.setIfInBounds p.1 p.2) tmps) ∧ ps.length = xs.length
  | [], _, _, tm, tmps, kk, .nil, ht, hk => ⟨tm, hk, ht, rfl⟩
  | p :: ps, _, _, tm, tmps, kk, .cons v x a y hv hl, ht, hk => by
    simp only [paramsK] at hk
    obtain ⟨tm1, hk1, h1⟩ := putK_ok hk
    obtain ⟨tm2, hk2, h2, h3⟩ := params_ok hl (ht.putA hv h1) hk1
    exact ⟨tm2, hk2, h2, by simp [h3]⟩
  | [], _, _, tm, tmps, kk, .cons v x a y hv hl, ht, hk => by simp [paramsK] at hk
  | p :: ps, _, _, tm, tmps, kk, .nil, ht, hk => by simp [paramsK] at hk
theorem roundK_ok {l c : Nat} {args : List V} {xs : List Value} {rest : List AF} {ca : List Frame} (hr : HR P w0 r h w) (hc : r.at_ l = some c) (hv : VRs r args xs) (hre : FHs P w0 r rest ca) (hk : roundK l args rest h = some s') :
    ∃ f t a b, (Instr.yield c ⟨xs⟩).run P w = .ok (.round c f t a b) w ∧ Rep P w0 tail s' (Frame.round c f t a b .normal) (ca ++ tail) w r := by
  unfold roundK at hk
  split at hk
  · rename_i st pe f n' tm' ps a b d hb
    obtain ⟨tmps, d', h0, ht, hd⟩ := hr.loop hb hc
    obtain ⟨tm2, hk2, h2, h3⟩ := params_ok hv ht hk
    cases hk2
    refine ⟨f, (ps.zip xs).foldl (fun (t : Array Value) (p : Nat × Value) => t.setIfInBounds p.1 p.2) tmps, a, b, ?_, hr, .plain ⟨rfl, .nil, rfl, rfl, c, hc, rfl⟩ h2 ?_, ca, rfl, hre⟩
    · have hg := getObj_run (P := P) h0 (by intros; simp)
      have hsz : xs.length = ps.length := h3.symm
      simp [Instr.yield, Instr.getLoop, hg, hsz, Result.andThen]
    · exact .cons _ _ _ _ (.code a) (.cons _ _ _ _ .beginRound (.cons _ _ _ _ (.code b) .nil))
  · cases hk
end
end
end Go.Ev
