/- The step machine goes with the world's machine: regions. -/
import Derived.Test.YthadnmpneonmfaaGreatDoorEvZB
namespace Go.Ev
open Go Go.RowKit
noncomputable section
section
variable {P : Program} {w0 : Base} {w : World} {r : Ren} {h : H} {tail : List Frame} {s' : S}
variable {ops : Array Oper} {tm : T V} {n : Nat} {fn : Nat} {k : List Item} {ds : List Deferred} {kd : CallKind} {rn : Option Nat} {cs : List Frame}

theorem drain_act {dp : Nat} {o : Oper} {rc : List Oper} {plan : List PS} {ex pot rcI : List Nat} {i : Nat} (ho : ops[i]? = some o) (hn : i ∉ ex)
    (h1 : ∀ j, j < ops.size → j ∉ ex → j ≠ i → Dep ops i j) (h2 : ∀ j, j ∈ pot → j ∈ rcI ∨ Dep ops j i) (h3 : ∀ j, j ∈ rcI → j ∈ pot) (h4 : ∀ j oj d, j ∈ rcI → ops[j]? = some oj → oj.dst = some d → d ∉ o.looksAt ops)
    (hrc : opersOf ops (rcI.filter (isRd P ops)) = some rc) (hp : PlanOk P ops plan (i :: ex) rcI) (hst : ∀ i ∈ pot, ∀ o, ops[i]? = some o → reads P o = true → Stab P ops tm h o) (hdl : ∀ i ∈ pot, ∀ o d, ops[i]? = some o → o.dst = some d → d < n) :
    ∀ (l : List Nat) (L : Nat → Bool) (tmps : Array Value) (w0 : Base) (r : Ren) (w : World), HR P w0 r h w → DR P w0 dp r ops (.act o rc :: plan) ex pot L tm n tmps l →
      ∃ tmps' l' L' pd r' w', Steps P (lone (fr fn tmps (.inRegion ops l :: k) ds kd rn) cs w) (lone (fr fn tmps' (.inRegion ops (i :: l') :: k) ds kd rn) cs w') ∧ HR P ⟨w0.w, pd⟩ r' h w' ∧ r.le r' ∧ PdOk dp w0.pend pd ∧
        HD P ⟨w0.w, pd⟩ dp r' ops o rc plan ex rcI L' i tm n tmps' l'
  | [], L, tmps, w0, r, w, hr, hd => by
    have hfol := hd.fol
    cases hfol with
    | nil _ hall =>
      have := hall i (Array.getElem?_eq_some_iff.1 ho).1
      exact absurd (hd.sub i this) hn
  | j :: l, L, tmps, w0, r, w, hr, hd => by
    by_cases hji : j = i
    · subst hji
      have hfol := hd.fol
      cases hfol with
      | cons _ o' _ _ ho' hLj hdeps hfol' =>
      rw [ho] at ho'; cases ho'
      have hpend : ∀ j', j' ∈ ex → L j' = false → j' ∈ rcI := fun j' hj' hL => by
        rcases h2 j' (hd.pend j' hj' hL) with h | h
        · exact h
        · have := h.ahead hd.shut ho hdeps; rw [hL] at this; cases this
      refine ⟨tmps, l, L, w0.pend, r, w, Steps.refl _ _, hr, Ren.le_refl r, .refl _ _, ?_⟩
      exact { ho := ho, hrc := hrc, plan := hp, fol := hfol', sub := hd.sub, noi := hn, pend := hpend, potex := fun j' hj' => hd.potex j' (h3 j' hj'), rdp := fun j' hj' => hd.rdp j' (h3 j' hj')
              looks := fun a oa b ob d ha hoa hb hob => hd.looks a oa b ob d (h3 a ha) hoa (h3 b hb) hob
              size := hd.size
              shut := fun a oa hoa ha e he hb => by
                rw [Bool.or_eq_true] at ha ⊢
                rcases ha with ha | ha
                · have : a = j := by simpa using ha
                  subst this; rw [ho] at hoa; cases hoa
                  exact .inr (hdeps e he hb)
                · exact .inr (hd.shut a oa hoa ha e he hb)
              tms := fun t v hv hno => hd.tms t v hv fun a oa ha hL hoa => hno a oa (hpend a (hd.potex a ha) hL) hL hoa
              lr := fun t ht v hv => hd.tms t v hv fun a oa ha hL hoa he => h4 a oa t (hpend a (hd.potex a ha) hL) hoa he ht
              dl := fun a ha oa d hoa hdd => hdl a (h3 a ha) oa d hoa hdd
              alp := fun a oa ha hL hoa hla => hd.alp a oa (h3 a ha) hL hoa hla }
    · have hj : j ∈ ex := by
        refine Classical.byContradiction fun hne => ?_
        have hfol := hd.fol
        cases hfol with
        | cons _ o' _ _ ho' hLj hdeps hfol' =>
        have hdep := h1 j (Array.getElem?_eq_some_iff.1 ho').1 hne hji
        exact hn (hd.sub i (hdep.ahead hd.shut ho' hdeps))
      obtain ⟨tmps', pd, r', w', hstep, hr', hle, hpd, hd'⟩ := drain1 (fn := fn) (k := k) (ds := ds) (kd := kd) (rn := rn) (cs := cs) hr hd hj hst hdl
      obtain ⟨tmps2, l2, L2, pd2, r2, w2, hs2, hr2, hle2, hpd2, hd2⟩ := drain_act ho hn h1 h2 h3 h4 hrc hp hst hdl l _ tmps' ⟨w0.w, pd⟩ r' w' hr' hd'
      exact ⟨tmps2, l2, L2, pd2, r2, w2, .head hstep hs2, hr2, Ren.le_trans hle hle2, hpd.trans hpd2, hd2⟩
theorem drain_end {dp : Nat} {ex pot : List Nat} (hall : ∀ i, i < ops.size → i ∈ ex) (hst : ∀ i ∈ pot, ∀ o, ops[i]? = some o → reads P o = true → Stab P ops tm h o) (hdl : ∀ i ∈ pot, ∀ o d, ops[i]? = some o → o.dst = some d → d < n) :
    ∀ (l : List Nat) (L : Nat → Bool) (tmps : Array Value) (w0 : Base) (r : Ren) (w : World), HR P w0 r h w → DR P w0 dp r ops [] ex pot L tm n tmps l →
      ∃ tmps' pd r' w', Steps P (lone (fr fn tmps (.inRegion ops l :: k) ds kd rn) cs w) (lone (fr fn tmps' (.inRegion ops [] :: k) ds kd rn) cs w') ∧ HR P ⟨w0.w, pd⟩ r' h w' ∧ r.le r' ∧ PdOk dp w0.pend pd ∧ TR r' tm n tmps'
  | [], L, tmps, w0, r, w, hr, hd => by
    have hfol := hd.fol
    cases hfol with
    | nil _ hL =>
      refine ⟨tmps, w0.pend, r, w, Steps.refl _ _, hr, Ren.le_refl r, .refl _ _, hd.size, fun t v hv => hd.tms t v hv fun j o hj hLj ho => ?_⟩
      have := hL j (Array.getElem?_eq_some_iff.1 ho).1
      rw [hLj] at this; cases this
  | j :: l, L, tmps, w0, r, w, hr, hd => by
    have hj : j ∈ ex := by
      have hfol := hd.fol
      cases hfol with
      | cons _ o' _ _ ho' _ _ _ => exact hall j (Array.getElem?_eq_some_iff.1 ho').1
    obtain ⟨tmps', pd, r', w', hstep, hr', hle, hpd, hd'⟩ := drain1 (fn := fn) (k := k) (ds := ds) (kd := kd) (rn := rn) (cs := cs) hr hd hj hst hdl
    obtain ⟨tmps2, pd2, r2, w2, hs2, hr2, hle2, hpd2, ht⟩ := drain_end hall hst hdl l _ tmps' ⟨w0.w, pd⟩ r' w' hr' hd'
    exact ⟨tmps2, pd2, r2, w2, .head hstep hs2, hr2, Ren.le_trans hle hle2, hpd.trans hpd2, ht⟩
theorem params_ok {res : S} : ∀ {ps : List Nat} {vs : List V} {xs : List Value} {tm : T V} {tmps : Array Value} {kk : T V → Option S}, VRs r vs xs → TR r tm n tmps → paramsK n ps vs tm none kk = some res →
    ∃ tm', kk tm' = some res ∧ TR r tm' n ((ps.zip xs).foldl (fun t p => t.setIfInBounds p.1 p.2) tmps) ∧ ps.length = xs.length
  | [], _, _, tm, tmps, kk, .nil, ht, hk => ⟨tm, hk, ht, rfl⟩
  | p :: ps, _, _, tm, tmps, kk, .cons v x a y hv hl, ht, hk => by
    simp only [paramsK] at hk
    obtain ⟨tm1, hk1, h1⟩ := putK_ok hk
    obtain ⟨tm2, hk2, h2, h3⟩ := params_ok hl (ht.putA hv h1) hk1
    exact ⟨tm2, hk2, h2, by simp [h3]⟩
  | [], _, _, tm, tmps, kk, .cons v x a y hv hl, ht, hk => by simp [paramsK] at hk
  | p :: ps, _, _, tm, tmps, kk, .nil, ht, hk => by simp [paramsK] at hk
theorem roundK_ok {l c : Nat} {args : List V} {xs : List Value} {rest : List AF} {ca : List Frame} (hr : HR P w0 r h w) (hc : r.at_ l = some c) (hv : VRs r args xs) (hre : FHs P w0 r rest ca) (hk : roundK l args rest h = some s') :
    ∃ f t a b, (Instr.yield c ⟨xs⟩).run P w = .ok (.round c f t a b) w ∧ Rep P w0 tail s' (Frame.round c f t a b .normal) (ca ++ tail) w r := by
  unfold roundK at hk
  split at hk
  · rename_i st pe f n' tm' ps a b d hb
    obtain ⟨tmps, d', h0, ht, hd⟩ := hr.loop hb hc
    obtain ⟨tm2, hk2, h2, h3⟩ := params_ok hv ht hk
    cases hk2
    refine ⟨f, (ps.zip xs).foldl (fun (t : Array Value) (p : Nat × Value) => t.setIfInBounds p.1 p.2) tmps, a, b, ?_, hr, .plain ⟨rfl, .nil, rfl, rfl, c, hc, rfl⟩ h2 ?_, ca, rfl, hre⟩
    · have hg := getObj_run (P := P) h0 (by intros; simp)
      have hsz : xs.length = ps.length := h3.symm
      simp [Instr.yield, Instr.getLoop, hg, hsz, Result.andThen]
    · exact .cons _ _ _ _ (.code a) (.cons _ _ _ _ .beginRound (.cons _ _ _ _ (.code b) .nil))
  · cases hk
end
end
end Go.Ev
