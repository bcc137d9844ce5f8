/- The step machine goes with the world's machine. -/
import Derived.Test.YthadnmpneonmfaaGreatDoorEvZ
import Derived.Test.YthadnmpneonmfaaGreatDoorEvY
namespace Go.Ev
open Go Go.RowKit
noncomputable section

structure FB (r : Ren) (a : AF) (f : Frame) : Prop where
  fn : f.fn = a.fn
  dfs : ADRs r a.dfs f.defers
  mode : f.mode = if a.ret then .returning else .run
  kind : f.kind = if a.dk then .deferred else .normal
  rnd : optAt r a.rnd f.roundOf
theorem optAt.mono {r s : Ren} (hl : r.le s) {m m' : Option Nat} (h : optAt r m m') : optAt s m m' := by
  cases m with
  | none => exact h
  | some m => obtain ⟨c, hc, he⟩ := h; exact ⟨c, (hl _ _ hc).1, he⟩
theorem FB.mono {r s : Ren} (hl : r.le s) {a : AF} {f : Frame} (h : FB r a f) : FB s a f := ⟨h.fn, h.dfs.mono hl, h.mode, h.kind, h.rnd.mono hl⟩
/-- A region that draws its order, held at an operation that acts and has been begun. -/
structure HD (P : Program) (w0 : Base) (dp : Nat) (r : Ren) (ops : Array Oper) (o : Oper) (rc : List Oper) (plan : List PS) (ex pot : List Nat) (L : Nat → Bool) (i : Nat) (tm : T V) (n : Nat) (tmps : Array Value) (l : List Nat) : Prop where
  ho : ops[i]? = some o
  hrc : opersOf ops (pot.filter (isRd P ops)) = some rc
  plan : PlanOk P ops plan (i :: ex) pot
  fol : Fol ops (fun j => j == i || L j) l
  shut : Shut ops (fun j => j == i || L j)
  sub : ∀ j, L j = true → j ∈ ex
  noi : i ∉ ex
  pend : ∀ j, j ∈ ex → L j = false → j ∈ pot
  potex : ∀ j, j ∈ pot → j ∈ ex
  rdp : ∀ j, j ∈ pot → ∃ o, ops[j]? = some o ∧ (reads P o = true ∨ lays o = true)
  looks : ∀ j o j' o' d, j ∈ pot → ops[j]? = some o → j' ∈ pot → ops[j']? = some o' → o'.dst = some d → d ∈ o.looksAt ops → Dep ops j' j
  size : tmps.size = n
  tms : ∀ t v, tm.get t = some v → (∀ j o, j ∈ pot → L j = false → ops[j]? = some o → o.dst ≠ some t) → ∃ x, tmps[t]? = some x ∧ VR r v x
  lr : LR r ops o tm tmps
  dl : ∀ i ∈ pot, ∀ o d, ops[i]? = some o → o.dst = some d → d < n
  alp : ∀ j o, j ∈ pot → L j = false → ops[j]? = some o → lays o = true → AlSt P w0 dp ops tm j o ∧ ∀ k, k < ops.size → k ∉ ex → Later ops o k
theorem HD.mono {P : Program} {w0 w1 : Base} {dp : Nat} {r s : Ren} (hl : r.le s) (hp : ∀ b ao j, w0.pend b = some (ao, dp, j) → w1.pend b = some (ao, dp, j)) {ops : Array Oper} {o : Oper} {rc : List Oper} {plan : List PS} {ex pot : List Nat} {L : Nat → Bool} {i : Nat} {tm : T V} {n : Nat} {tmps : Array Value} {l : List Nat}
    (h : HD P w0 dp r ops o rc plan ex pot L i tm n tmps l) : HD P w1 dp s ops o rc plan ex pot L i tm n tmps l :=
  { h with tms := fun t v hv he => let ⟨x, hx, hr⟩ := h.tms t v hv he; ⟨x, hx, hr.mono hl⟩
           lr := fun t ht v hv => let ⟨x, hx, hr⟩ := h.lr t ht v hv; ⟨x, hx, hr.mono hl⟩
           alp := fun j o hj hL ho hla => let ⟨a, b⟩ := h.alp j o hj hL ho hla; ⟨a.congr (fun b ao => hp b ao j) (fun _ _ => rfl) (fun _ _ => rfl), b⟩ }
/-- The operation has ended. -/
theorem HD.fin {P : Program} {w0 : Base} {dp : Nat} {r : Ren} {ops : Array Oper} {o : Oper} {rc : List Oper} {plan : List PS} {ex pot : List Nat} {L : Nat → Bool} {i : Nat} {tm tm' : T V} {n : Nat} {tmps : Array Value} {l : List Nat}
    (h : HD P w0 dp r ops o rc plan ex pot L i tm n tmps l) {v : V} {x : Value} (hv : VR r v x) (ht : (o.dst = none ∧ tm' = tm) ∨ ∃ d, o.dst = some d ∧ d < n ∧ tm' = tm.set d v) :
    DR P w0 dp r ops plan (i :: ex) pot (fun j => j == i || L j) tm' n (putA tmps o.dst x) l where
  plan := h.plan
  fol := h.fol
  shut := h.shut
  sub := fun j hj => by
    rw [Bool.or_eq_true] at hj
    rcases hj with hj | hj
    · have : j = i := by simpa using hj
      subst this; exact List.mem_cons_self ..
    · exact List.mem_cons_of_mem _ (h.sub j hj)
  pend := fun j hj hL => by
    rw [Bool.or_eq_false_iff] at hL
    rcases List.mem_cons.1 hj with rfl | hj
    · simp at hL
    · exact h.pend j hj hL.2
  potex := fun j hj => List.mem_cons_of_mem _ (h.potex j hj)
  rdp := h.rdp
  looks := h.looks
  size := by rw [putA_size]; exact h.size
  alp := fun j oj hj hL hoj hla => by
    rw [Bool.or_eq_false_iff] at hL
    obtain ⟨a1, a2⟩ := h.alp j oj hj hL.2 hoj hla
    refine ⟨?_, fun q hq hqe => a2 q hq fun hh => hqe (List.mem_cons_of_mem _ hh)⟩
    have hi := a2 i (Array.getElem?_eq_some_iff.1 h.ho).1 h.noi
    rcases ht with ⟨_, rfl⟩ | ⟨d, hd, _, rfl⟩
    · exact a1
    · obtain ⟨g1, g2⟩ := hi o d h.ho hd
      refine a1.congr (fun _ _ hc => hc) (fun t ht => ?_) (fun t ht => ?_)
      · rw [T.get_set, if_neg (fun (e : t = d) => g1 (e ▸ ht))]
      · rw [T.get_set, if_neg (fun (e : t = d) => g2 (e ▸ ht))]
  tms := fun t u hu hno => by
    have hno' : ∀ j o, j ∈ pot → L j = false → ops[j]? = some o → o.dst ≠ some t := fun j o hj hL ho => hno j o hj (by
      rw [Bool.or_eq_false_iff]
      refine ⟨?_, hL⟩
      have : j ≠ i := fun e => h.noi (e ▸ h.potex j hj)
      simpa using this) ho
    rw [putA_get]
    rcases ht with ⟨hd, rfl⟩ | ⟨d, hd, hlt, rfl⟩
    · rw [hd, if_neg (by simp)]; exact h.tms t u hu hno'
    · rw [T.get_set] at hu
      by_cases he : t = d
      · subst he
        rw [if_pos rfl] at hu; cases hu
        exact ⟨x, by rw [if_pos ⟨hd, by rw [h.size]; exact hlt⟩], hv⟩
      · rw [if_neg he] at hu
        rw [if_neg (fun hh => he (by rw [hd] at hh; exact (Option.some.inj hh.1).symm))]
        exact h.tms t u hu hno'

inductive FTop (P : Program) (w0 : Base) (dp : Nat) (r : Ren) (h : H) (a : AF) (f : Frame) : Prop
  | plain (fb : FB r a f) (tr : TR r a.tm a.n f.tmps) (it : IRs r a.todo f.todo)
  | drawn (fb : FB r a f) (hrun : a.ret = false) (ops : Array Oper) (plan : List PS) (td : List AI) (ex pot : List Nat) (L : Nat → Bool) (l : List Nat) (k : List Item) (ha : a.todo = .dreg ops plan :: td) (hf : f.todo = .inRegion ops l :: k)
      (dr : DR P w0 dp r ops plan ex pot L a.tm a.n f.tmps l) (st : ∀ i ∈ pot, ∀ o, ops[i]? = some o → reads P o = true → Stab P ops a.tm h o) (dl : ∀ i ∈ pot, ∀ o d, ops[i]? = some o → o.dst = some d → d < a.n) (it : IRs r td k)
inductive FHeld (P : Program) (w0 : Base) (dp : Nat) (r : Ren) (a : AF) (f : Frame) : Prop
  | plain (fb : FB r a f) (tr : TR r a.tm a.n f.tmps) (it : IRs r a.todo f.todo)
  | held (fb : FB r a f) (hrun : a.ret = false) (ops : Array Oper) (o : Oper) (rc : List Oper) (plan : List PS) (td : List AI) (ex pot : List Nat) (L : Nat → Bool) (i : Nat) (l : List Nat) (k : List Item) (ha : a.todo = .dreg ops (.act o rc :: plan) :: td) (hf : f.todo = .inRegion ops (i :: l) :: k)
      (hd : HD P w0 dp r ops o rc plan ex pot L i a.tm a.n f.tmps l) (it : IRs r td k)
theorem FHeld.mono {P : Program} {w0 w1 : Base} {dp : Nat} {r s : Ren} (hl : r.le s) (hp : ∀ b ao j, w0.pend b = some (ao, dp, j) → w1.pend b = some (ao, dp, j)) {a : AF} {f : Frame} (h : FHeld P w0 dp r a f) : FHeld P w1 dp s a f := by
  cases h with
  | plain fb tr it => exact .plain (fb.mono hl) (tr.mono hl) (it.mono hl)
  | held fb hrun ops o rc plan td ex pot L i l k ha hf hd it => exact .held (fb.mono hl) hrun ops o rc plan td ex pot L i l k ha hf (hd.mono hl hp) (it.mono hl)
inductive FHs (P : Program) (w0 : Base) (r : Ren) : List AF → List Frame → Prop
  | nil : FHs P w0 r [] []
  | cons (a : AF) (f : Frame) (x : List AF) (y : List Frame) (h : FHeld P w0 x.length r a f) (k : FHs P w0 r x y) : FHs P w0 r (a :: x) (f :: y)
theorem FHs.pd {P : Program} {w0 w1 : Base} {r s : Ren} (hl : r.le s) {a : List AF} {b : List Frame} (hp : ∀ b ao e j, w0.pend b = some (ao, e, j) → e < a.length → w1.pend b = some (ao, e, j)) (h : FHs P w0 r a b) : FHs P w1 s a b := by
  induction h with
  | nil => exact .nil
  | cons a f x y h k ih =>
    exact .cons a f x y (h.mono hl fun b ao j hb => hp b ao _ j hb (by simp)) (ih fun b ao e j hb he => hp b ao e j hb (by simp only [List.length_cons]; omega))
theorem FHs.mono {P : Program} {w0 : Base} {r s : Ren} (hl : r.le s) {a : List AF} {b : List Frame} (h : FHs P w0 r a b) : FHs P w0 s a b := h.pd hl fun _ _ _ _ hb _ => hb
/-- The step machine's state and the world's machine. -/
structure Rep (P : Program) (w0 : Base) (tail : List Frame) (s : S) (f : Frame) (cs : List Frame) (w : World) (r : Ren) : Prop where
  hr : HR P w0 r s.h w
  top : FTop P w0 s.rest.length r s.h s.top f
  rest : ∃ ca, cs = ca ++ tail ∧ FHs P w0 r s.rest ca
/-- Goes on to. -/
def To (P : Program) (w0 : World) (tail : List Frame) (f : Frame) (cs : List Frame) (w : World) (s : S) : Prop := ∃ pd r f' cs' w', Steps P (lone f cs w) (lone f' cs' w') ∧ Rep P ⟨w0, pd⟩ tail s f' cs' w' r
section
variable {P : Program} {w0 : Base} {w : World} {r : Ren} {h : H} {tail : List Frame} {s' : S}
theorem putK_ok {tm : T V} {n : Nat} {d : Option Nat} {v : V} {k : T V → Option S} {res : S} (hk : putK tm n d v none k = some res) : ∃ tm', k tm' = some res ∧ ((d = none ∧ tm' = tm) ∨ ∃ e, d = some e ∧ e < n ∧ tm' = tm.set e v) := by
  unfold putK at hk
  split at hk
  · exact ⟨tm, hk, .inl ⟨rfl, rfl⟩⟩
  · rename_i e
    split at hk
    · rename_i hlt
      rw [T.setK_eq] at hk
      exact ⟨_, hk, .inr ⟨e, rfl, Nat.le_of_ble_eq_true hlt, rfl⟩⟩
    · cases hk
theorem TR.putA {tm tm' : T V} {n : Nat} {tmps : Array Value} {d : Option Nat} {v : V} {x : Value} (h : TR r tm n tmps) (hv : VR r v x) (ht : (d = none ∧ tm' = tm) ∨ ∃ e, d = some e ∧ e < n ∧ tm' = tm.set e v) : TR r tm' n (putA tmps d x) := by
  rcases ht with ⟨rfl, rfl⟩ | ⟨e, rfl, hlt, rfl⟩
  · exact h
  · exact h.put hlt hv
theorem fnI_spec {f n : Nat} {c : Code} (hf : fnI P f = some (n, c)) : ∃ fn, P.funcs[f]? = some fn ∧ fn.body = some c ∧ fn.ntmps = n ∧ ∀ (args : Array Value) (d : World), (callFunc f args).run P d = .ok (.enter f args) d := by
  unfold fnI at hf
  split at hf
  · rename_i fn hfn
    split at hf
    · rename_i c' hb
      split at hf
      · cases hf
      · rename_i hn
        cases hf
        refine ⟨fn, hfn, hb, rfl, fun args d => ?_⟩
        have hn' : ¬ fn.name = "runtime.NumGoroutine" := by simpa using hn
        simp [callFunc, hfn, hb, hn', Result.andThen]
    · cases hf
  · cases hf
/-- A call is entered. -/
theorem callK_ok {f : Nat} {args : List V} {xs : List Value} {dk : Bool} {rest : List AF} {ca : List Frame} (hr : HR P w0 r h w) (hv : VRs r args xs) (hre : FHs P w0 r rest ca) (hk : callK P f args dk rest h = some s') :
    (∀ (d : World), (callFunc f ⟨xs⟩).run P d = .ok (.enter f ⟨xs⟩) d) ∧ Rep P w0 tail s' (Frame.enter P f ⟨xs⟩ (if dk then .deferred else .normal)) (ca ++ tail) w r := by
  unfold callK at hk
  split at hk
  · cases hk
  rename_i n c hf
  obtain ⟨fn, hfn, hb, hn, hcall⟩ := fnI_spec hf
  split at hk
  · cases hk
  rename_i hlt
  have hlt := Nat.le_of_ble_eq_true hlt
  rw [setsK_eq] at hk
  cases hk
  refine ⟨fun d => hcall _ d, hr, .plain ⟨rfl, .nil, rfl, rfl, rfl⟩ ⟨?_, ?_⟩ ?_, ca, rfl, hre⟩
  · show (Frame.enter P f ⟨xs⟩ _).tmps.size = n
    have hl := hv.length
    simp [Frame.enter, hfn, hn]; omega
  · intro t v ht
    have ht' : (sets args .e 0).get t = some v := ht
    rw [get_sets] at ht'
    split at ht'
    · rename_i hc
      simp only [Nat.sub_zero] at ht'
      obtain ⟨x, hx, hvr⟩ := hv.get ht'
      refine ⟨x, ?_, hvr⟩
      show (Frame.enter P f ⟨xs⟩ _).tmps[t]? = some x
      have hlt2 := (List.getElem?_eq_some_iff.1 hx).1
      simp only [Frame.enter]
      rw [Array.getElem?_append_left (by simpa using hlt2)]
      simpa using hx
    · rw [T.get_e] at ht'; cases ht'
  · show IRs r [.code c] (Frame.enter P f ⟨xs⟩ _).todo
    simp only [Frame.enter, hfn, Option.bind_some, hb, Option.getD_some]
    exact .cons _ _ _ _ (.code c) .nil
/-- A value comes back. -/
theorem finishK_ok {a : AF} {f : Frame} {v : V} {x : Value} {rest : List AF} {ca : List Frame} (hr : HR P w0 r h w) (hf : FHeld P w0 rest.length r a f) (hv : VR r v x) (hre : FHs P w0 r rest ca) (hrun : a.ret = false)
    (hk : finishK P a h v none (fun c => some ⟨c, rest, h⟩) = some s') : Rep P w0 tail s' (f.finish x) (ca ++ tail) w r := by
  obtain ⟨fn, n, tm, todo, dfs, ret, dk, rnd⟩ := a
  obtain ⟨ffn, ftmps, ftodo, fds, fmode, fkind, frn⟩ := f
  unfold finishK at hk
  dsimp only at hk
  cases hf with
  | plain fb tr it =>
    dsimp only at it tr
    obtain ⟨b1, b2, b3, b4, b5⟩ := fb
    dsimp only at b1 b2 b3 b4 b5
    split at hk
    · rename_i ops o rst td
      cases it with
      | cons _ b _ y hi hk' =>
      cases hi with
      | reg _ _ l hreg =>
      cases hreg with
      | cons i _ l' _ ho hreg' =>
      obtain ⟨tm', hk2, htm⟩ := putK_ok hk
      cases hk2
      refine ⟨hr, ?_, ca, rfl, hre⟩
      have := fin_reg (fn := ffn) (tmps := ftmps) (k := y) (ds := fds) (kd := fkind) (rn := frn) (l := l') ho x fmode
      simp only at this
      rw [this]
      exact .plain ⟨b1, b2, b3, b4, b5⟩ (tr.putA hv htm) (.cons _ _ _ _ (.reg _ _ _ hreg') hk')
    · rename_i ops o rc plan td
      cases it with
      | cons _ b _ y hi hk' => cases hi
    · rename_i l td
      cases it with
      | cons _ b _ y hi hk' =>
      cases hi with
      | inRF _ c hc =>
      cases hk
      exact ⟨hr, .plain ⟨b1, b2, b3, b4, b5⟩ tr (.cons _ _ _ _ (.endRF _ c hc) hk'), ca, rfl, hre⟩
    · cases hk
  | held fb _ ops o rc plan td ex pot L i l k ha hf hd it =>
    dsimp only at ha hf hd
    subst ha hf
    obtain ⟨b1, b2, b3, b4, b5⟩ := fb
    dsimp only at b1 b2 b3 b4 b5 hk
    obtain ⟨tm', hk2, htm⟩ := putK_ok hk
    split at hk2
    · rename_i hrec
      cases hk2
      refine ⟨hr, ?_, ca, rfl, hre⟩
      have := fin_reg (fn := ffn) (tmps := ftmps) (k := k) (ds := fds) (kd := fkind) (rn := frn) (l := l) hd.ho x fmode
      simp only at this
      rw [this]
      exact .drawn ⟨b1, b2, b3, b4, b5⟩ hrun ops plan td (i :: ex) pot _ l k rfl rfl (hd.fin hv htm) (recheck_rd hd.hrc hrec) hd.dl it
    · cases hk2
end
end
end Go.Ev
