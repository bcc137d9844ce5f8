/- The step machine: its frames and the world's. -/
import Derived.Test.YthadnmpneonmfaaGreatDoorEvSA
import Derived.Test.YthadnmpneonmfaaGreatDoorEvU
namespace Go.Ev
open Go Go.RowKit
noncomputable section

-- what an operation looks at
theorem looks_operand {ops : Array Oper} {o : Oper} {t : Nat} (h : Operand.tmp t ∈ o.op.operands.toList) : t ∈ o.looksAt ops :=
  List.mem_append_left _ (List.mem_filterMap.2 ⟨.tmp t, h, rfl⟩)
section congr
variable {P : Program} {f g : Nat → Option V} {h : H}
theorem ev_congr {x : Operand} (hx : ∀ t, x = .tmp t → f t = g t) : ev f x = ev g x := by
  cases x <;> first | rfl | exact hx _ rfl
theorem evs_congr : ∀ {l : List Operand}, (∀ x ∈ l, ev f x = ev g x) → evs f l = evs g l
  | [], _ => rfl
  | x :: l, hx => by simp only [evs, hx x (List.mem_cons_self ..), evs_congr fun y hy => hx y (List.mem_cons_of_mem _ hy)]
theorem evParts_congr : ∀ {l : List (Nat × Operand)}, (∀ x ∈ l, ev f x.2 = ev g x.2) → evParts f l = evParts g l
  | [], _ => rfl
  | x :: l, hx => by simp only [evParts, hx x (List.mem_cons_self ..), evParts_congr fun y hy => hx y (List.mem_cons_of_mem _ hy)]
theorem optNat_congr {x : Option Operand} {d : Nat} (hx : ∀ y, x = some y → ev f y = ev g y) : optNat f x d = optNat g x d := by
  cases x with
  | none => rfl
  | some y => simp only [optNat, hx y rfl]
theorem rd_congr {o : Oper} (hx : ∀ x ∈ o.op.operands.toList, ev f x = ev g x) : rd P f h o = rd P g h o := by
  obtain ⟨dst, op, type, pos, after, guard⟩ := o
  dsimp only at hx
  cases op <;> simp only [Op.operands] at hx <;> simp only [rd]
  case move x => exact hx x (by simp)
  case pick c a b => rw [hx c (by simp), hx a (by simp), hx b (by simp)]
  case build t ps => rw [evParts_congr (g := g) fun x hm => hx x.2 (by simp; exact ⟨x.1, by simpa using hm⟩)]
  case load t a => rw [hx a (by simp)]
  case nilCheck x => rw [hx x (by simp)]
  case binOp op t x y yt => rw [hx x (by simp), hx y (by simp)]
  case unOp op t x => rw [hx x (by simp)]
  case convert s d x => rw [hx x (by simp)]
  case makeInterface t x => rw [hx x (by simp)]
  case makeFunc fn first cap =>
    have e1 : evs f first.toList = evs g first.toList := evs_congr fun x hm => hx x (by simp; exact .inl (by simpa using hm))
    have e2 : evs f cap.toList = evs g cap.toList := evs_congr fun x hm => hx x (by simp; exact .inr (by simpa using hm))
    cases fn <;> simp only [e1, e2]
  case fieldAddr t x i => rw [hx x (by simp)]
  case field t x i => rw [hx x (by simp)]
  case indexAddr t x i => rw [hx x (by simp), hx i (by simp)]
  case index t x i => rw [hx x (by simp), hx i (by simp)]
  case lookup t x i ok => rw [hx x (by simp), hx i (by simp)]
  case typeAssert x t a ok => rw [hx x (by simp)]
  case extract x i => rw [hx x (by simp)]
  case slice t x lo hi mx =>
    have e1 : ∀ d, optNat f lo d = optNat g lo d := fun d => optNat_congr fun y hy => hx y (by subst hy; simp)
    have e2 : ∀ d, optNat f hi d = optNat g hi d := fun d => optNat_congr fun y hy => hx y (by subst hy; simp)
    have e3 : ∀ d, optNat f mx d = optNat g mx d := fun d => optNat_congr fun y hy => hx y (by subst hy; simp)
    rw [hx x (by simp)]
    cases mx <;> simp only [sliceAtV, sliceV, e1, e2, e3]
  case entry it => rw [hx it (by simp)]
  case call c =>
    obtain ⟨callee, args, ats⟩ := c
    have ha : ∀ x ∈ args.toList, ev f x = ev g x := fun x hm => hx x (by simp [Call.operands]; exact .inr (by simpa using hm))
    have e1 := evs_congr ha
    cases callee <;> simp only
    rename_i b
    cases b <;> simp only [e1]
    all_goals
      cases hargs : args.toList with
      | nil => rfl
      | cons x l =>
        rw [hargs] at ha
        cases ats.toList with
        | nil => rfl
        | cons t ts => simp only [ha x (List.mem_cons_self ..)]
end congr

/-- What stands ahead in a frame. -/
inductive RegL (ops : Array Oper) : List Nat → List Oper → Prop
  | nil : RegL ops [] []
  | cons (i : Nat) (o : Oper) (l : List Nat) (rest : List Oper) (ho : ops[i]? = some o) (h : RegL ops l rest) : RegL ops (i :: l) (o :: rest)
theorem regL_from {ops : Array Oper} : ∀ (k i : Nat), i + k = ops.size → RegL ops (List.range' i k) (ops.toList.drop i)
  | 0, i, h => by rw [List.drop_eq_nil_of_le (by simp; omega)]; exact .nil
  | k + 1, i, h => by
    have hlt : i < ops.size := by omega
    rw [List.range'_succ, List.drop_eq_getElem_cons (by simpa using hlt)]
    exact .cons i _ _ _ (by simp [hlt]) (regL_from k (i + 1) (by omega))
theorem regL_all (ops : Array Oper) : RegL ops (List.range ops.size) ops.toList := by
  have := regL_from (ops := ops) ops.size 0 (by omega)
  rw [List.range_eq_range']; simpa using this
inductive IR (r : Ren) : AI → Item → Prop
  | code (c : Code) : IR r (.code c) (.code c)
  | inBlock (id : Nat) : IR r (.inBlock id) (.inBlock id)
  | inLoop (b : Code) : IR r (.inLoop b) (.inLoop b)
  | inScope (b : Code) : IR r (.inScope b) (.inScope b)
  | reg (ops : Array Oper) (rest : List Oper) (l : List Nat) (h : RegL ops l rest) : IR r (.reg ops rest) (.inRegion ops l)
  | inRF (l c : Nat) (h : r.at_ l = some c) : IR r (.inRF l) (.inRangeFunc c)
  | endRF (l c : Nat) (h : r.at_ l = some c) : IR r (.endRF l) (.endRangeFunc c)
  | beginRound : IR r .beginRound .beginRound
inductive IRs (r : Ren) : List AI → List Item → Prop
  | nil : IRs r [] []
  | cons (a : AI) (b : Item) (x : List AI) (y : List Item) (h : IR r a b) (k : IRs r x y) : IRs r (a :: x) (b :: y)
theorem IR.mono {r s : Ren} (hl : r.le s) {a : AI} {b : Item} (h : IR r a b) : IR s a b := by
  cases h with
  | code c => exact .code c
  | inBlock i => exact .inBlock i
  | inLoop b => exact .inLoop b
  | inScope b => exact .inScope b
  | reg ops rest l h => exact .reg ops rest l h
  | inRF l c h => exact .inRF l c (hl _ _ h).1
  | endRF l c h => exact .endRF l c (hl _ _ h).1
  | beginRound => exact .beginRound
theorem IRs.mono {r s : Ren} (hl : r.le s) : ∀ {a : List AI} {b : List Item}, IRs r a b → IRs s a b
  | _, _, .nil => .nil
  | _, _, .cons a b x y h k => .cons a b x y (h.mono hl) (IRs.mono hl k)
inductive ADRs (r : Ren) : List AD → List Deferred → Prop
  | nil : ADRs r [] []
  | cons (a : AD) (b : Deferred) (x : List AD) (y : List Deferred) (h : ADR r a b) (k : ADRs r x y) : ADRs r (a :: x) (b :: y)
theorem ADRs.mono {r s : Ren} (hl : r.le s) : ∀ {a : List AD} {b : List Deferred}, ADRs r a b → ADRs s a b
  | _, _, .nil => .nil
  | _, _, .cons a b x y h k => .cons a b x y (h.mono hl) (ADRs.mono hl k)

/-- Does an operation give now what the machine says that it gave? -/
def Stab (P : Program) (ops : Array Oper) (tm : T V) (h : H) (o : Oper) : Prop := same1 P ops tm h o = true
theorem wantedA_congr {ops : Array Oper} {f g : Nat → Option V} {o : Oper} (hx : ∀ t, t ∈ o.looksAt ops → f t = g t) : wantedA ops f o = wantedA ops g o := by
  unfold wantedA
  cases hg : o.guard with
  | none => rfl
  | some p =>
    obtain ⟨j, want⟩ := p
    dsimp only
    cases hj : ops[j]? with
    | none => rfl
    | some oj =>
      dsimp only
      cases hd : oj.dst with
      | none => rfl
      | some d =>
        dsimp only
        rw [hx d (List.mem_append_right _ (by rw [hg]; simp [hj, hd]))]
/-- Of the slots what an operation looks at. -/
def seen (ops : Array Oper) (o : Oper) (tm : T V) (t : Nat) : Option V := if t ∈ o.looksAt ops then tm.get t else none
theorem seen_congr {ops : Array Oper} {o : Oper} {tm tm' : T V} (hx : ∀ t, t ∈ o.looksAt ops → tm'.get t = tm.get t) : seen ops o tm' = seen ops o tm := by
  funext t
  unfold seen
  by_cases h : t ∈ o.looksAt ops
  · rw [if_pos h, if_pos h, hx t h]
  · rw [if_neg h, if_neg h]
/-- What an operation that lays a block has brought the machine; the world may still have to do it. -/
def AlSt (P : Program) (w0 : Base) (dp : Nat) (ops : Array Oper) (tm : T V) (j : Nat) (o : Oper) : Prop :=
  (wantedA ops tm.get o = some false ∧ ∀ d, o.dst = some d → tm.get d = some (.tup [])) ∨
  (wantedA ops tm.get o = some true ∧ ∃ b ao g, w0.pend b = some (ao, dp, j) ∧ (∀ d, o.dst = some d → tm.get d = some (g b)) ∧
    ∀ (r : Ren) (w : World) (ρ : Operand → Value), ER r (seen ops o tm) ρ → LayOut P r w (execOp ρ o) ao g)
theorem AlSt.congr {P : Program} {w0 w1 : Base} {dp : Nat} {ops : Array Oper} {tm tm' : T V} {j : Nat} {o : Oper} (h : AlSt P w0 dp ops tm j o) (hp : ∀ b ao, w0.pend b = some (ao, dp, j) → w1.pend b = some (ao, dp, j))
    (h1 : ∀ t, t ∈ o.looksAt ops → tm'.get t = tm.get t) (h2 : ∀ d, o.dst = some d → tm'.get d = tm.get d) : AlSt P w1 dp ops tm' j o := by
  rcases h with ⟨a, b⟩ | ⟨a, b, ao, g, c, d, e⟩
  · exact .inl ⟨by rw [wantedA_congr h1]; exact a, fun d hd => by rw [h2 d hd]; exact b d hd⟩
  · exact .inr ⟨by rw [wantedA_congr h1]; exact a, b, ao, g, hp _ _ c, fun x hx => by rw [h2 x hx]; exact d x hx, fun r w ρ hr => e r w ρ (by rw [← seen_congr h1]; exact hr)⟩
/-- A region that draws its order, in the midst: the machine is ahead of the world by what only reads and what lays a block. -/
structure DR (P : Program) (w0 : Base) (dp : Nat) (r : Ren) (ops : Array Oper) (plan : List PS) (ex pot : List Nat) (L : Nat → Bool) (tm : T V) (n : Nat) (tmps : Array Value) (l : List Nat) : Prop where
  plan : PlanOk P ops plan ex pot
  fol : Fol ops L l
  shut : Shut ops L
  sub : ∀ j, L j = true → j ∈ ex
  pend : ∀ j, j ∈ ex → L j = false → j ∈ pot
  potex : ∀ j, j ∈ pot → j ∈ ex
  rdp : ∀ j, j ∈ pot → ∃ o, ops[j]? = some o ∧ (reads P o = true ∨ lays o = true)
  looks : ∀ j o j' o' d, j ∈ pot → ops[j]? = some o → j' ∈ pot → ops[j']? = some o' → o'.dst = some d → d ∈ o.looksAt ops → Dep ops j' j
  size : tmps.size = n
  tms : ∀ t v, tm.get t = some v → (∀ j o, j ∈ pot → L j = false → ops[j]? = some o → o.dst ≠ some t) → ∃ x, tmps[t]? = some x ∧ VR r v x
  alp : ∀ j o, j ∈ pot → L j = false → ops[j]? = some o → lays o = true → AlSt P w0 dp ops tm j o ∧ ∀ k, k < ops.size → k ∉ ex → Later ops o k
theorem DR.mono {P : Program} {w0 w1 : Base} {dp : Nat} {r s : Ren} (hl : r.le s) (hp : ∀ b ao j, w0.pend b = some (ao, dp, j) → w1.pend b = some (ao, dp, j)) {ops : Array Oper} {plan : List PS} {ex pot : List Nat} {L : Nat → Bool} {tm : T V} {n : Nat} {tmps : Array Value} {l : List Nat} (h : DR P w0 dp r ops plan ex pot L tm n tmps l) : DR P w1 dp s ops plan ex pot L tm n tmps l :=
  { h with tms := fun t v hv he => let ⟨x, hx, hr⟩ := h.tms t v hv he; ⟨x, hx, hr.mono hl⟩
           alp := fun j o hj hL ho hla => let ⟨a, b⟩ := h.alp j o hj hL ho hla; ⟨a.congr (fun b ao => hp b ao j) (fun _ _ => rfl) (fun _ _ => rfl), b⟩ }
/-- What was to come in other frames is still to come. -/
def PdOk (dp : Nat) (p q : Nat → Option (AObj × Nat × Nat)) : Prop := ∀ b ao e j, p b = some (ao, e, j) → e ≠ dp → q b = some (ao, e, j)
theorem PdOk.refl (dp : Nat) (p : Nat → Option (AObj × Nat × Nat)) : PdOk dp p p := fun _ _ _ _ h _ => h
theorem PdOk.trans {dp : Nat} {p q u : Nat → Option (AObj × Nat × Nat)} (h : PdOk dp p q) (k : PdOk dp q u) : PdOk dp p u := fun b ao e j hb he => k b ao e j (h b ao e j hb he) he
theorem isRd_of {P : Program} {ops : Array Oper} {j : Nat} {o : Oper} (ho : ops[j]? = some o) (hr : reads P o = true) : isRd P ops j = true := by
  unfold isRd; rw [ho]; exact hr
theorem opersOf_mem {ops : Array Oper} : ∀ {l : List Nat} {rs : List Oper}, opersOf ops l = some rs → ∀ j ∈ l, ∃ o, ops[j]? = some o ∧ o ∈ rs
  | [], _, _, j, hj => by cases hj
  | i :: l, rs, h, j, hj => by
    simp only [opersOf] at h
    split at h
    · cases h
    rename_i o ho
    split at h
    · cases h
    rename_i m hm
    cases h
    rcases List.mem_cons.1 hj with rfl | hj
    · exact ⟨o, ho, List.mem_cons_self ..⟩
    · obtain ⟨o', ho', hmem⟩ := opersOf_mem hm j hj
      exact ⟨o', ho', List.mem_cons_of_mem _ hmem⟩
theorem recheck_ok {P : Program} {ops : Array Oper} {tm : T V} {h : H} : ∀ {l : List Oper}, recheck P ops tm h l = true → ∀ o ∈ l, Stab P ops tm h o
  | [], _, o, ho => by cases ho
  | a :: l, hr, o, ho => by
    simp only [recheck] at hr
    split at hr
    · rename_i hs
      rcases List.mem_cons.1 ho with rfl | ho
      · exact hs
      · exact recheck_ok hr o ho
    · cases hr
theorem recheck_rd {P : Program} {ops : Array Oper} {tm : T V} {h : H} {pot : List Nat} {rc : List Oper} (hrc : opersOf ops (pot.filter (isRd P ops)) = some rc) (hr : recheck P ops tm h rc = true) :
    ∀ j ∈ pot, ∀ o, ops[j]? = some o → reads P o = true → Stab P ops tm h o := fun j hj o ho hre => by
  obtain ⟨o', ho', hmem⟩ := opersOf_mem hrc j (List.mem_filter.2 ⟨hj, isRd_of ho hre⟩)
  rw [ho] at ho'; cases ho'
  exact recheck_ok hr _ hmem
end
end Go.Ev
