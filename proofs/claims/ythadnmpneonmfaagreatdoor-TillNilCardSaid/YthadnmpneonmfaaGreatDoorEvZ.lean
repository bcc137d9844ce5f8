/- The step machine: regions that draw their order, walked. -/
import Derived.Test.YthadnmpneonmfaaGreatDoorEvY
namespace Go.Ev
open Go Go.RowKit
noncomputable section
section congr
variable {P : Program} {f g : Nat → Option V} {h : H} {β : Type} {no : β} {kv : V → H → β} {kc kr : Nat → List V → β} {kd : AD → β} {kn : β}
theorem actK_congr {o : Oper} (hx : ∀ x ∈ o.op.operands.toList, ev f x = ev g x) : actK P f h o no kv kc kr kd kn = actK P g h o no kv kc kr kd kn := by
  obtain ⟨dst, op, type, pos, after, guard⟩ := o
  dsimp only at hx
  cases op <;> simp only [Op.operands] at hx <;> simp only [actK]
  case assign x => rw [hx x (by simp)]
  case store t a x => rw [hx a (by simp), hx x (by simp)]
  case box t x => rw [hx x (by simp)]
  case buildSlice t n ps => rw [evParts_congr (g := g) fun x hm => hx x.2 (by simp; exact ⟨x.1, by simpa using hm⟩)]
  case makeSlice t l c => rw [hx l (by simp), hx c (by simp)]
  case makeMap t r =>
    cases r with
    | none => rfl
    | some x => simp only [hx x (by simp)]
  case mapUpdate t m k x => rw [hx m (by simp), hx k (by simp), hx x (by simp)]
  case insert t m k x => rw [hx m (by simp), hx k (by simp), hx x (by simp)]
  case range t x => rw [hx x (by simp)]
  case next it b => rw [hx it (by simp)]
  case convert s d x => rw [hx x (by simp)]
  case defer c =>
    obtain ⟨callee, args, ats⟩ := c
    have ha : ∀ x ∈ args.toList, ev f x = ev g x := fun x hm => hx x (by simp [Call.operands]; exact .inr (by simpa using hm))
    have e1 := evs_congr ha
    cases callee <;> simp only [e1]
    rename_i y
    rw [hx y (by simp [Call.operands])]
  case call c =>
    obtain ⟨callee, args, ats⟩ := c
    have ha : ∀ x ∈ args.toList, ev f x = ev g x := fun x hm => hx x (by simp [Call.operands]; exact .inr (by simpa using hm))
    have e1 := evs_congr ha
    cases callee with
    | value y => simp only [e1, hx y (by simp [Call.operands])]
    | invoke y m => simp only [e1, hx y (by simp [Call.operands])]
    | builtin b => cases b <;> simp only [e1]
end congr
section walk
variable {P : Program} {w0 : Base} {w : World} {r : Ren} {h : H} {ops : Array Oper} {tm : T V} {tmps : Array Value}

/-- The slots that an operation looks at stand for one another. -/
def LR (r : Ren) (ops : Array Oper) (o : Oper) (tm : T V) (tmps : Array Value) : Prop := ∀ t, t ∈ o.looksAt ops → ∀ v, tm.get t = some v → ∃ x, tmps[t]? = some x ∧ VR r v x
theorem TR.lr {n : Nat} {o : Oper} (h : TR r tm n tmps) : LR r ops o tm tmps := fun t _ v hv => h.at_ t v hv
theorem wanted_ok {o : Oper} (hl : LR r ops o tm tmps) {b : Bool} (hw : wantedA ops tm.get o = some b) : Region.wanted o (yielded ops tmps) = b := by
  unfold wantedA at hw
  unfold Region.wanted
  split at hw
  · rename_i hg; cases hw; rw [hg]
  · rename_i j want hg
    rw [hg]
    dsimp only
    unfold yielded
    split at hw
    · rename_i hj; cases hw; rw [hj]; rfl
    · rename_i oj hj
      split at hw
      · rename_i hd; cases hw; rw [hj]; simp [hd]
      · rename_i d hd
        have hlk : d ∈ o.looksAt ops := List.mem_append_right _ (by rw [hg]; simp [hj, hd])
        split at hw
        · rename_i bb hv
          cases hw
          obtain ⟨x, hx, hvr⟩ := hl d hlk _ hv
          rw [hj]; simp only [Option.bind_some, hd, hx, hvr.bool_inv]
          cases bb <;> cases want <;> rfl
        · cases hw
        · rename_i v hnb hnu hv
          cases hw
          obtain ⟨x, hx, hvr⟩ := hl d hlk _ hv
          rw [hj]; simp only [Option.bind_some, hd, hx]
          cases hvr <;> first | rfl | exact absurd rfl (hnb _) | exact absurd rfl hnu
        · cases hw
theorem er_of {o : Oper} (hr : HR P w0 r h w) (hl : LR r ops o tm tmps) : ER r (seen ops o tm) (Act.eval ⟨tmps, []⟩) :=
  ER.of hr fun t v hv => by
    unfold seen at hv
    split at hv
    · rename_i hm; exact hl t hm v hv
    · cases hv
theorem ev_same {o : Oper} : ∀ x ∈ o.op.operands.toList, ev tm.get x = ev (seen ops o tm) x := fun x hx =>
  ev_congr fun t ht => by subst ht; unfold seen; rw [if_pos (looks_operand hx)]
theorem rd_step {o : Oper} (hr : HR P w0 r h w) (hl : LR r ops o tm tmps) {v : V} (hd : rd P tm.get h o = some v) : ∃ x, VR r v x ∧ (execOp (Act.eval ⟨tmps, []⟩) o).run P w = .ok (.value x) w :=
  rd_ok hr (er_of hr hl) (by rw [← rd_congr (ev_same (ops := ops) (tm := tm))]; exact hd)
theorem act_step {o : Oper} (hr : HR P w0 r h w) (hl : LR r ops o tm tmps) {kv : V → H → Option S} {kc kr : Nat → List V → Option S} {kd : AD → Option S} {kn : Option S} {res : S} (hk : actK P tm.get h o none kv kc kr kd kn = some res) :
    ActOut P w0 r h w (execOp (Act.eval ⟨tmps, []⟩) o) res kv kc kr kd kn :=
  act_ok hr (er_of hr hl) (by rw [← actK_congr (ev_same (ops := ops) (tm := tm))]; exact hk)
theorem reads_noDefer {o : Oper} (h : reads P o = true) : ∀ c, o.op ≠ .defer c := fun c e => by
  unfold reads at h; rw [e] at h; cases h
theorem putA_size (d : Option Nat) (x : Value) : (putA tmps d x).size = tmps.size := by cases d <;> simp [putA]
theorem putA_get {d : Option Nat} {x : Value} {t : Nat} : (putA tmps d x)[t]? = if d = some t ∧ t < tmps.size then some x else tmps[t]? := by
  cases d with
  | none => simp [putA]
  | some d =>
    by_cases h : d = t
    · subst h
      by_cases hl : d < tmps.size
      · simp [putA, hl]
      · simp [putA, hl]
    · simp [putA, h, Array.getElem?_setIfInBounds_ne]
theorem lays_noDefer {o : Oper} (h : lays o = true) : ∀ c, o.op ≠ .defer c := fun c e => by
  unfold lays at h; rw [e] at h; cases h
/-- An operation that was outstanding has been carried out by the world. -/
theorem DR.did {dp : Nat} {plan : List PS} {ex pot : List Nat} {L : Nat → Bool} {n j : Nat} {l : List Nat} {o : Oper} {x : Value} (hd : DR P w0 dp r ops plan ex pot L tm n tmps (j :: l)) (hj : j ∈ ex) (ho : ops[j]? = some o)
    (hfol' : Fol ops (fun i => i == j || L i) l) (hdeps : ∀ e ∈ o.after.toList, Region.binds .any e = true → L e.on = true) (hlt : ∀ d, o.dst = some d → d < n)
    (hx : ∀ d, o.dst = some d → ∃ v, tm.get d = some v ∧ VR r v x) : DR P w0 dp r ops plan ex pot (fun i => i == j || L i) tm n (putA tmps o.dst x) l :=
    { plan := hd.plan
      fol := hfol'
      shut := fun i oi hoi hi e he hb => by
        rw [Bool.or_eq_true] at hi ⊢
        rcases hi with hi | hi
        · have : i = j := by simpa using hi
          subst this
          rw [ho] at hoi; cases hoi
          exact .inr (hdeps e he hb)
        · exact .inr (hd.shut i oi hoi hi e he hb)
      sub := fun i hi => by
        rw [Bool.or_eq_true] at hi
        rcases hi with hi | hi
        · have : i = j := by simpa using hi
          subst this; exact hj
        · exact hd.sub i hi
      pend := fun i hi hL => by
        rw [Bool.or_eq_false_iff] at hL
        exact hd.pend i hi hL.2
      potex := hd.potex
      rdp := hd.rdp
      looks := hd.looks
      size := by rw [putA_size]; exact hd.size
      alp := fun i oi hi hL hoi hla => by
        rw [Bool.or_eq_false_iff] at hL
        exact hd.alp i oi hi hL.2 hoi hla
      tms := fun t v hv hno => by
        rw [putA_get]
        by_cases hdt : o.dst = some t
        · obtain ⟨v', hv', hvr⟩ := hx t hdt
          rw [hv] at hv'; cases hv'
          have hlt : t < tmps.size := by rw [hd.size]; exact hlt t hdt
          exact ⟨x, by rw [if_pos ⟨hdt, hlt⟩], hvr⟩
        · rw [if_neg (fun hh => hdt hh.1)]
          refine hd.tms t v hv fun i oi hi hL hoi => ?_
          by_cases hij : i = j
          · subst hij; rw [ho] at hoi; cases hoi; exact hdt
          · exact hno i oi hi (by rw [Bool.or_eq_false_iff]; exact ⟨by simpa using hij, hL⟩) hoi }
/-- What is outstanding is made up for: one operation. -/
theorem drain1 {dp : Nat} {plan : List PS} {ex pot : List Nat} {L : Nat → Bool} {n j : Nat} {l : List Nat} {fn : Nat} {k : List Item} {ds : List Deferred} {kd : CallKind} {rn : Option Nat} {cs : List Frame}
    (hr : HR P w0 r h w) (hd : DR P w0 dp r ops plan ex pot L tm n tmps (j :: l)) (hj : j ∈ ex) (hst : ∀ i ∈ pot, ∀ o, ops[i]? = some o → reads P o = true → Stab P ops tm h o)
    (hdl : ∀ i ∈ pot, ∀ o d, ops[i]? = some o → o.dst = some d → d < n) :
    ∃ tmps' pd r' w', step P (lone (fr fn tmps (.inRegion ops (j :: l) :: k) ds kd rn) cs w) = .next (lone (fr fn tmps' (.inRegion ops l :: k) ds kd rn) cs w') ∧ HR P ⟨w0.w, pd⟩ r' h w' ∧ r.le r' ∧ PdOk dp w0.pend pd ∧
      DR P ⟨w0.w, pd⟩ dp r' ops plan ex pot (fun i => i == j || L i) tm n tmps' l := by
  have hfol := hd.fol
  cases hfol with
  | cons _ o _ _ ho hn hdeps hfol' =>
  have hjp := hd.pend j hj hn
  obtain ⟨o', ho', hrl⟩ := hd.rdp j hjp
  rw [ho] at ho'; cases ho'
  -- what it looks at is there
  have hlr : LR r ops o tm tmps := fun t ht v hv => hd.tms t v hv fun j' o' hj' hL' ho' he => by
    have hdep := hd.looks j o j' o' t hjp ho hj' ho' he ht
    have := hdep.ahead hd.shut ho hdeps
    rw [hL'] at this; cases this
  have hltd := hdl j hjp o
  by_cases hreads : reads P o = true
  · have hstab := hst j hjp o ho hreads
    unfold Stab same1 at hstab
    split at hstab
    · cases hstab
    · rename_i hw
      have hw' := wanted_ok hlr hw
      refine ⟨_, w0.pend, r, w, st_opSkip ho hw', hr, Ren.le_refl r, .refl _ _, hd.did (x := undef) hj ho hfol' hdeps (fun d hdd => hltd d ho hdd) fun d hdd => ?_⟩
      rw [hdd] at hstab
      dsimp only at hstab
      split at hstab
      · rename_i hv; exact ⟨_, hv, .tup [] [] .nil⟩
      · cases hstab
    · rename_i hw
      have hw' := wanted_ok hlr hw
      split at hstab
      · cases hstab
      rename_i v hv
      obtain ⟨x, hvr, hrun⟩ := rd_step hr hlr hv
      refine ⟨_, w0.pend, r, w, st_opVal ho hw' (.inr (reads_noDefer hreads)) hrun, hr, Ren.le_refl r, .refl _ _, hd.did (x := x) hj ho hfol' hdeps (fun d hdd => hltd d ho hdd) fun d hdd => ?_⟩
      rw [hdd] at hstab
      dsimp only at hstab
      split at hstab
      · cases hstab
      · rename_i u hu
        exact ⟨u, hu, by rw [← beqV_ok hstab]; exact hvr⟩
  · have hla : lays o = true := hrl.resolve_left hreads
    obtain ⟨hal, hlater⟩ := hd.alp j o hjp hn ho hla
    rcases hal with ⟨hw, hv⟩ | ⟨hw, b, ao, g, hpb, hv, hlay⟩
    · exact ⟨_, w0.pend, r, w, st_opSkip ho (wanted_ok hlr hw), hr, Ren.le_refl r, .refl _ _, hd.did (x := undef) hj ho hfol' hdeps (fun d hdd => hltd d ho hdd) fun d hdd => ⟨_, hv d hdd, .tup [] [] .nil⟩⟩
    · obtain ⟨obj, x, hrun, hor⟩ := hlay r w _ (er_of hr hlr)
      have hle := Ren.ext_le (c := w.heap.size) (k := 0) (hr.keep b _ hpb).2.1
      obtain ⟨hO, hV⟩ := hor b _ hle (Ren.ext_at ..)
      obtain ⟨hr', _⟩ := hr.name hpb obj 0 hO
      refine ⟨_, _, _, _, st_opVal ho (wanted_ok hlr hw) (.inr (lays_noDefer hla)) hrun, hr', hle, fun c ao' e i hc he => ?_, ?_⟩
      · have : c ≠ b := fun hh => by subst hh; rw [hpb] at hc; cases hc; exact he rfl
        show (if c = b then none else w0.pend c) = _
        rw [if_neg this]; exact hc
      · have hd0 : DR P w0 dp (r.ext b w.heap.size 0) ops plan ex pot L tm n tmps (j :: l) := hd.mono hle fun _ _ _ h => h
        have hd2 := hd0.did (x := x) hj ho hfol' hdeps (fun d hdd => hltd d ho hdd) fun d hdd => ⟨_, hv d hdd, hV⟩
        refine { hd2 with alp := ?_ }
        intro i oi hi hL hoi hla'
        obtain ⟨a1, a2⟩ := hd2.alp i oi hi hL hoi hla'
        refine ⟨a1.congr (fun c ao' hc => ?_) (fun _ _ => rfl) (fun _ _ => rfl), a2⟩
        have hij : i ≠ j := fun e => by
          subst e; simp at hL
        have : c ≠ b := fun hh => by subst hh; rw [hpb] at hc; cases hc; exact hij rfl
        show (if c = b then none else w0.pend c) = _
        rw [if_neg this]; exact hc
end walk
end
end Go.Ev
