/- The step machine goes with the world's machine: every step. -/
import Derived.Test.YthadnmpneonmfaaGreatDoorEvZD
namespace Go.Ev
open Go Go.RowKit
noncomputable section
section
variable {P : Program} {w0 : Base} {w : World} {r : Ren} {h : H} {tail : List Frame} {s' : S}

theorem FTop.ret_of {dp : Nat} {a : AF} {f : Frame} (ht : FTop P w0 dp r h a f) (hret : a.ret = true) : ∃ tmps k ds rn, f = ⟨a.fn, tmps, k, ds, .returning, kdOf a.dk, rn⟩ ∧ ADRs r a.dfs ds ∧ optAt r a.rnd rn ∧ TR r a.tm a.n tmps ∧ IRs r a.todo k := by
  cases ht with
  | plain fb tr it =>
    obtain ⟨ffn, ftmps, ftodo, fds, fmode, fkind, frn⟩ := f
    obtain ⟨b1, b2, b3, b4, b5⟩ := fb
    dsimp only at b1 b2 b3 b4 b5 tr it
    subst b1 b3 b4
    exact ⟨ftmps, ftodo, fds, frn, by rw [hret]; rfl, b2, b5, tr, it⟩
  | drawn fb hrun => rw [hret] at hrun; cases hrun
theorem FHeld.top {dp : Nat} {a : AF} {f : Frame} (ht : FHeld P w0 dp r a f) (hret : a.ret = true) : FTop P w0 dp r h a f ∧ f.mode = .returning := by
  cases ht with
  | plain fb tr it => exact ⟨.plain fb tr it, by rw [fb.mode, hret]; rfl⟩
  | held fb hrun => rw [hret] at hrun; cases hrun
/-- A call put off is begun. -/
theorem defer_call {fn n g : Nat} {tm : T V} {tmps : Array Value} {todo : List AI} {k : List Item} {args : List V} {dfs : List AD} {ds : List Deferred} {dk : Bool} {rnd rn : Option Nat} {rest : List AF} {ca : List Frame}
    (hr : HR P w0 r h w) (tr : TR r tm n tmps) (it : IRs r todo k) (hd : ADRs r (.call g args :: dfs) ds) (hrn : optAt r rnd rn) (hre : FHs P w0 r rest ca)
    (hk : callK P g args true (⟨fn, n, tm, todo, dfs, true, dk, rnd⟩ :: rest) h = some s') :
    To P w0.w tail ⟨fn, tmps, k, ds, .returning, kdOf dk, rn⟩ (ca ++ tail) w s' := by
  cases hd with
  | cons _ d _ ds' hd hds =>
  cases hd with
  | call _ _ cap xs hv =>
  obtain ⟨hc, hrep⟩ := callK_ok (tail := tail) hr hv (.cons _ ⟨fn, tmps, k, ds', .returning, kdOf dk, rn⟩ _ _ (.plain ⟨rfl, hds, rfl, rfl, hrn⟩ tr it) hre) hk
  refine ⟨w0.pend, r, _, _, w, .one (step_defer (f := g) (args := ⟨xs ++ cap⟩) (by simp) rfl rfl ?_), hrep⟩
  have e : (invoke (.fn (.func g) ⟨cap⟩) ⟨xs⟩) = callFunc g ⟨xs ++ cap⟩ := by
    simp [invoke]
  rw [e]; exact hc w
/-- A mark is taken. -/
theorem defer_mark {fn n b : Nat} {tm : T V} {tmps : Array Value} {todo : List AI} {k : List Item} {dfs : List AD} {ds : List Deferred} {dk : Bool} {rnd rn : Option Nat} {rest : List AF} {ca : List Frame}
    (hr : HR P w0 r h w) (tr : TR r tm n tmps) (it : IRs r todo k) (hd : ADRs r (.mark b :: dfs) ds) (hrn : optAt r rnd rn) (hre : FHs P w0 r rest ca) (hb : h.t.get b = some .dfr) :
    To P w0.w tail ⟨fn, tmps, k, ds, .returning, kdOf dk, rn⟩ (ca ++ tail) w ⟨⟨fn, n, tm, todo, dfs, true, dk, rnd⟩, rest, ⟨h.t.set b .dfrNone, h.nx⟩⟩ := by
  cases hd with
  | cons _ d _ ds' hd hds =>
  cases hd with
  | mark _ c hc =>
  obtain ⟨c', hc', hO, _⟩ := hr.ob b _ hb rfl _ hc
  obtain rfl : c' = c := by rw [hc] at hc'; exact (Option.some.inj hc').symm
  have hr2 : HR P w0 r ⟨h.t.set b .dfrNone, h.nx⟩ { w with heap := w.heap.setIfInBounds c' (.deferred none) } :=
    hr.upd (o' := .dfrNone) hb rfl rfl hc (Upd.setObj _) fun _ => trivial
  exact ⟨w0.pend, r, _, _, _, .one (st_mark hO), hr2, .plain ⟨rfl, hds, rfl, rfl, hrn⟩ tr it, ca, rfl, hre⟩
/-- A frame is left. -/
theorem leave_end {fn n : Nat} {tm : T V} {tmps : Array Value} {k : List Item} {dk : Bool} {rn : Option Nat} {c : AF} {rest : List AF} {ca : List Frame} {v : V}
    (hr : HR P w0 r h w) (tr : TR r tm n tmps) (hre : FHs P w0 r (c :: rest) ca) (hv : results P fn tm h = some v)
    (hk : (match dk with
            | true => match c.ret with
              | true => some (⟨c, rest, h⟩ : S)
              | false => none
            | false => match c.ret with
              | true => none
              | false => finishK P c h v none fun c => some ⟨c, rest, h⟩) = some s') :
    To P w0.w tail ⟨fn, tmps, k, [], .returning, kdOf dk, rn⟩ (ca ++ tail) w s' := by
  obtain ⟨F, x, hF, hvr, hrun⟩ := results_ok hr tr hv
  cases hre with
  | cons _ X _ Y hX hY =>
  cases dk with
  | true =>
    dsimp only at hk
    split at hk
    · rename_i hret
      cases hk
      obtain ⟨ht, hm⟩ := hX.top (h := h) hret
      refine ⟨w0.pend, r, _, _, w, .one (step_going_returned (c := X) (cs := Y ++ tail) rfl ⟨rfl, rfl, F, hF, hrun⟩), hr, ?_, Y, rfl, hY⟩
      have : ({ X with mode := settle X.mode } : Frame) = X := by
        rw [hm]
        obtain ⟨ffn, ftmps, ftodo, fds, fmode, fkind, frn⟩ := X
        dsimp only at hm
        subst hm; rfl
      rw [this]; exact ht
    · cases hk
  | false =>
    dsimp only at hk
    split at hk
    · cases hk
    · rename_i hret
      exact ⟨w0.pend, r, _, _, w, .one (step_leave_returned (c := X) (cs := Y ++ tail) ⟨rfl, rfl, rfl, F, hF, hrun⟩), finishK_ok hr hX hvr hY hret hk⟩
/-- A range over a function is begun. -/
theorem rf_ok {fn n g : Nat} {tm : T V} {tmps : Array Value} {f : Operand} {params : Array Tmp} {a b : Code} {td : List AI} {k : List Item} {dfs : List AD} {ds : List Deferred} {dk : Bool} {rest : List AF} {ca : List Frame} {first cap : List V}
    (hr : HR P w0 r h w) (tr : TR r tm n tmps) (it : IRs r td k) (hd : ADRs r dfs ds) (hre : FHs P w0 r rest ca) (hf : ev tm.get f = some (.fn g first cap))
    (hk : (newObjK h .dfr fun r h => newObjK h (.loop .ready none fn n tm params.toList a b r) fun l h =>
                callK P g (first ++ .yld l :: cap) false (⟨fn, n, tm, .inRF l :: td, .mark r :: dfs, false, dk, none⟩ :: rest) h) = some s') :
    To P w0.w tail (fr fn tmps (.code (.rangeFunc f params a b) :: k) ds (kdOf dk) none) (ca ++ tail) w s' := by
  obtain ⟨p, q, he, hp, hq⟩ := ((ER.of (ds := []) hr tr.at_ : ER r tm.get (Act.eval ⟨tmps, []⟩)) f _ hf).fn_inv
  obtain ⟨h1, r1, hr1, l1, a1, hk1⟩ := newObjK_ok (o := .deferred (some [])) (ao := .dfr) hr rfl hk
  have hsz : (w.alloc (.deferred (some []))).heap.size = w.heap.size + 1 := by simp
  have le2 := Ren.ext_le (c := (w.alloc (.deferred (some []))).heap.size) (k := 0) hr1.none_nx
  obtain ⟨h2, r2, hr2, l2, a2, hk2⟩ := newObjK_ok (o := .loop { state := .ready, pending := none, fn := fn, tmps := tmps, params := params, assign := a, body := b, defers := w.heap.size }) (ao := .loop .ready none fn n tm params.toList a b h.nx) hr1
    ⟨tmps, w.heap.size, by simp, (tr.mono l1).mono le2, (le2 _ _ a1).1⟩ hk1
  have hl : r.le r2 := fun x d hx => ⟨(l2 _ _ (l1 _ _ hx).1).1, by rw [(l2 _ _ (l1 _ _ hx).1).2, (l1 _ _ hx).2]⟩
  rw [hsz] at a2
  have hv : VRs r2 (first ++ .yld h1.nx :: cap) (p ++ .func (.yield (w.heap.size + 1)) #[] #[] :: q) := (hp.mono hl).append (.cons _ _ _ _ (.yld _ _ a2) (hq.mono hl))
  obtain ⟨hc, hrep⟩ := callK_ok (tail := tail) (dk := false) hr2 hv (.cons ⟨fn, n, tm, .inRF h1.nx :: td, .mark h.nx :: dfs, false, dk, none⟩ (fr fn tmps (.inRangeFunc (w.heap.size + 1) :: k) ({ target := .collected w.heap.size, args := #[] } :: ds) (kdOf dk) none) _ _
    (.plain ⟨rfl, .cons _ _ _ _ (.mark _ _ (l2 _ _ a1).1) (hd.mono hl), rfl, rfl, rfl⟩ (tr.mono hl) (.cons _ _ _ _ (.inRF _ _ a2) (it.mono hl))) (hre.mono hl)) hk2
  have hg : ∀ (d : World) (args : Array Value), (callFunc g args).run P d = .ok (.enter g args) d := by
    unfold callK at hk2
    split at hk2
    · cases hk2
    rename_i m c hf
    obtain ⟨_, _, _, _, hcall⟩ := fnI_spec hf
    exact fun d args => hcall args d
  exact ⟨w0.pend, r2, _, _, _, .one (st_rangeFunc he hg), hrep⟩
theorem To.pre {W : World} {f f1 : Frame} {cs cs1 : List Frame} {w1 : World} (hs : Steps P (lone f cs w) (lone f1 cs1 w1)) (ht : To P W tail f1 cs1 w1 s') : To P W tail f cs w s' := by
  obtain ⟨pd, r, f', cs', w', h1, h2⟩ := ht
  exact ⟨pd, r, f', cs', w', Steps.trans hs h1, h2⟩
theorem FTop.run_of {dp : Nat} {a : AF} {f : Frame} (ht : FTop P w0 dp r h a f) (hret : a.ret = false) (hno : ∀ ops plan td, a.todo ≠ .dreg ops plan :: td) : ∃ tmps k ds rn, f = fr a.fn tmps k ds (kdOf a.dk) rn ∧ ADRs r a.dfs ds ∧ optAt r a.rnd rn ∧ TR r a.tm a.n tmps ∧ IRs r a.todo k := by
  obtain ⟨tmps, k, ds, rn, h1, h2⟩ := ht.plain_of hno
  exact ⟨tmps, k, ds, rn, by rw [h1, hret]; rfl, h2⟩
theorem lays_of_reads {o : Oper} (h : reads P o = true) : lays o = false := by
  unfold reads at h
  unfold lays
  split at h <;> simp_all
/-- In a region that draws its order: an operation that only lays a block is carried out ahead. -/
theorem drawn_al {fn n i : Nat} {w1 : Base} {h1 : H} {tm tm' : T V} {tmps : Array Value} {ops : Array Oper} {o : Oper} {rc : List Oper} {p : PS} {plan : List PS} {ex pot : List Nat} {L : Nat → Bool} {li : List Nat} {td : List AI} {k : List Item} {dfs : List AD} {ds : List Deferred} {dk : Bool} {rnd rn : Option Nat} {rest : List AF} {ca : List Frame} {v : V}
    (hw1 : w1.w = w0.w) (hpd : ∀ b e, w0.pend b = some e → w1.pend b = some e) (hr : HR P w1 r h1 w) (dr : DR P w0 rest.length r ops (p :: plan) ex pot L tm n tmps li) (dl : ∀ i ∈ pot, ∀ o d, ops[i]? = some o → o.dst = some d → d < n) (it : IRs r td k) (hd : ADRs r dfs ds) (hrn : optAt r rnd rn) (hre : FHs P w0 r rest ca)
    (ho : ops[i]? = some o) (hn : i ∉ ex) (hla : lays o = true)
    (hl : ∀ j oj d, j ∈ pot → ops[j]? = some oj → oj.dst = some d → d ∈ o.looksAt ops → Dep ops j i) (hs : ∀ d, o.dst = some d → d ∉ o.looksAt ops)
    (hf : ∀ j oj d, j ∈ pot → ops[j]? = some oj → o.dst = some d → d ∉ oj.looksAt ops) (hlt : ∀ j, j < ops.size → j ∉ ex → j ≠ i → Later ops o j)
    (hrc : opersOf ops ((pot ++ [i]).filter (isRd P ops)) = some rc) (hp : PlanOk P ops plan (i :: ex) (pot ++ [i])) (hal : AlSt P w1 rest.length ops tm' i o)
    (ht : (o.dst = none ∧ tm' = tm) ∨ ∃ e, o.dst = some e ∧ e < n ∧ tm' = tm.set e v) (hrec : recheck P ops tm' h1 rc = true) :
    To P w0.w tail (fr fn tmps (.inRegion ops li :: k) ds (kdOf dk) rn) (ca ++ tail) w ⟨⟨fn, n, tm', .dreg ops plan :: td, dfs, false, dk, rnd⟩, rest, h1⟩ := by
  have hLi : L i = false := by
    cases hL : L i with
    | false => rfl
    | true => exact absurd (dr.sub i hL) hn
  have hdr : DR P w1 rest.length r ops plan (i :: ex) (pot ++ [i]) L tm' n tmps li :=
    { plan := hp, fol := dr.fol, shut := dr.shut
      sub := fun j hj => List.mem_cons_of_mem _ (dr.sub j hj)
      pend := fun j hj hL => by
        rcases List.mem_cons.1 hj with rfl | hj
        · exact List.mem_append_right _ (List.mem_singleton.2 rfl)
        · exact List.mem_append_left _ (dr.pend j hj hL)
      potex := fun j hj => by
        rcases List.mem_append.1 hj with hj | hj
        · exact List.mem_cons_of_mem _ (dr.potex j hj)
        · rw [List.mem_singleton.1 hj]; exact List.mem_cons_self ..
      rdp := fun j hj => by
        rcases List.mem_append.1 hj with hj | hj
        · exact dr.rdp j hj
        · rw [List.mem_singleton.1 hj]; exact ⟨o, ho, .inr hla⟩
      looks := fun j oj j' oj' d hj hoj hj' hoj' hd' hlk => by
        rcases List.mem_append.1 hj with h1 | h1 <;> rcases List.mem_append.1 hj' with h2 | h2
        · exact dr.looks j oj j' oj' d h1 hoj h2 hoj' hd' hlk
        · obtain rfl := List.mem_singleton.1 h2
          rw [ho] at hoj'; cases hoj'
          exact absurd hlk (hf j oj d h1 hoj hd')
        · obtain rfl := List.mem_singleton.1 h1
          rw [ho] at hoj; cases hoj
          exact hl j' oj' d h2 hoj' hd' hlk
        · obtain rfl := List.mem_singleton.1 h1
          obtain rfl := List.mem_singleton.1 h2
          rw [ho] at hoj; cases hoj
          rw [ho] at hoj'; cases hoj'
          exact absurd hlk (hs d hd')
      size := dr.size
      alp := fun j oj hj hL hoj hla => by
        rcases List.mem_append.1 hj with hj | hj
        · obtain ⟨a1, a2⟩ := dr.alp j oj hj hL hoj hla
          refine ⟨?_, fun q hq hqe => a2 q hq fun hh => hqe (List.mem_cons_of_mem _ hh)⟩
          rcases ht with ⟨_, rfl⟩ | ⟨d, hd', _, rfl⟩
          · exact a1.congr (fun _ _ hc => hpd _ _ hc) (fun _ _ => rfl) (fun _ _ => rfl)
          · obtain ⟨g1, g2⟩ := a2 i (Array.getElem?_eq_some_iff.1 ho).1 hn o d ho hd'
            refine a1.congr (fun _ _ hc => hpd _ _ hc) (fun t ht => ?_) (fun t ht => ?_)
            · rw [T.get_set, if_neg (fun (e : t = d) => g1 (e ▸ ht))]
            · rw [T.get_set, if_neg (fun (e : t = d) => g2 (e ▸ ht))]
        · obtain rfl := List.mem_singleton.1 hj
          rw [ho] at hoj; cases hoj
          exact ⟨hal, fun q hq hqe => hlt q hq (fun hh => hqe (List.mem_cons_of_mem _ hh)) (fun e => hqe (e ▸ List.mem_cons_self ..))⟩
      tms := fun t u hu hno => by
        have hno' : ∀ j o, j ∈ pot → L j = false → ops[j]? = some o → o.dst ≠ some t := fun j oj hj hL hoj => hno j oj (List.mem_append_left _ hj) hL hoj
        have hi : o.dst ≠ some t := hno i o (List.mem_append_right _ (List.mem_singleton.2 rfl)) hLi ho
        rcases ht with ⟨_, rfl⟩ | ⟨d, hd', _, rfl⟩
        · exact dr.tms t u hu hno'
        · rw [T.get_set, if_neg (fun e => hi (by rw [hd', e]))] at hu
          exact dr.tms t u hu hno' }
  have hre1 : FHs P w1 r rest ca := hre.pd (Ren.le_refl r) fun b ao e j hb _ => hpd _ _ hb
  have hw1e : w1 = ⟨w0.w, w1.pend⟩ := by rw [← hw1]
  refine ⟨w1.pend, r, _, _, w, Steps.refl _ _, ?_⟩
  rw [← hw1e]
  refine ⟨hr, .drawn ⟨rfl, hd, rfl, rfl, hrn⟩ rfl ops plan td (i :: ex) (pot ++ [i]) L li k rfl rfl hdr (recheck_rd hrc hrec) (fun j hj oj d hoj hdd => ?_) it, ca, rfl, hre1⟩
  rcases List.mem_append.1 hj with hj | hj
  · exact dl j hj oj d hoj hdd
  · obtain rfl := List.mem_singleton.1 hj
    rw [ho] at hoj; cases hoj
    rcases ht with ⟨hdn, _⟩ | ⟨d', hd', hlt, _⟩
    · rw [hdn] at hdd; cases hdd
    · rw [hd'] at hdd; cases hdd; exact hlt
/-- In a region that draws its order: an operation that only reads is carried out ahead. -/
theorem drawn_rd {fn n : Nat} {tm tm' : T V} {tmps : Array Value} {ops : Array Oper} {o : Oper} {rc : List Oper} {plan : List PS} {ex pot : List Nat} {L : Nat → Bool} {li : List Nat} {td : List AI} {k : List Item} {dfs : List AD} {ds : List Deferred} {dk : Bool} {rnd rn : Option Nat} {rest : List AF} {ca : List Frame} {v : V}
    (hr : HR P w0 r h w) (dr : DR P w0 rest.length r ops (.rd o rc :: plan) ex pot L tm n tmps li) (dl : ∀ i ∈ pot, ∀ o d, ops[i]? = some o → o.dst = some d → d < n) (it : IRs r td k) (hd : ADRs r dfs ds) (hrn : optAt r rnd rn) (hre : FHs P w0 r rest ca)
    (ht : (o.dst = none ∧ tm' = tm) ∨ ∃ e, o.dst = some e ∧ e < n ∧ tm' = tm.set e v) (hrec : recheck P ops tm' h rc = true) :
    To P w0.w tail (fr fn tmps (.inRegion ops li :: k) ds (kdOf dk) rn) (ca ++ tail) w ⟨⟨fn, n, tm', .dreg ops plan :: td, dfs, false, dk, rnd⟩, rest, h⟩ := by
  have hp := dr.plan
  cases hp with
  | rd i _ _ _ _ _ ho hn hread hl hs hf hrc hp =>
  have hLi : L i = false := by
    cases hL : L i with
    | false => rfl
    | true => exact absurd (dr.sub i hL) hn
  have hdr : DR P w0 rest.length r ops plan (i :: ex) (pot ++ [i]) L tm' n tmps li :=
    { plan := hp, fol := dr.fol, shut := dr.shut
      sub := fun j hj => List.mem_cons_of_mem _ (dr.sub j hj)
      pend := fun j hj hL => by
        rcases List.mem_cons.1 hj with rfl | hj
        · exact List.mem_append_right _ (List.mem_singleton.2 rfl)
        · exact List.mem_append_left _ (dr.pend j hj hL)
      potex := fun j hj => by
        rcases List.mem_append.1 hj with hj | hj
        · exact List.mem_cons_of_mem _ (dr.potex j hj)
        · rw [List.mem_singleton.1 hj]; exact List.mem_cons_self ..
      rdp := fun j hj => by
        rcases List.mem_append.1 hj with hj | hj
        · exact dr.rdp j hj
        · rw [List.mem_singleton.1 hj]; exact ⟨o, ho, .inl hread⟩
      looks := fun j oj j' oj' d hj hoj hj' hoj' hd' hlk => by
        rcases List.mem_append.1 hj with h1 | h1 <;> rcases List.mem_append.1 hj' with h2 | h2
        · exact dr.looks j oj j' oj' d h1 hoj h2 hoj' hd' hlk
        · obtain rfl := List.mem_singleton.1 h2
          rw [ho] at hoj'; cases hoj'
          exact absurd hlk (hf j oj d h1 hoj hd')
        · obtain rfl := List.mem_singleton.1 h1
          rw [ho] at hoj; cases hoj
          exact hl j' oj' d h2 hoj' hd' hlk
        · obtain rfl := List.mem_singleton.1 h1
          obtain rfl := List.mem_singleton.1 h2
          rw [ho] at hoj; cases hoj
          rw [ho] at hoj'; cases hoj'
          exact absurd hlk (hs d hd')
      size := dr.size
      alp := fun j oj hj hL hoj hla => by
        rcases List.mem_append.1 hj with hj | hj
        · obtain ⟨a1, a2⟩ := dr.alp j oj hj hL hoj hla
          refine ⟨?_, fun q hq hqe => a2 q hq fun hh => hqe (List.mem_cons_of_mem _ hh)⟩
          rcases ht with ⟨_, rfl⟩ | ⟨d, hd', _, rfl⟩
          · exact a1
          · obtain ⟨g1, g2⟩ := a2 i (Array.getElem?_eq_some_iff.1 ho).1 hn o d ho hd'
            refine a1.congr (fun _ _ hc => hc) (fun t ht => ?_) (fun t ht => ?_)
            · rw [T.get_set, if_neg (fun (e : t = d) => g1 (e ▸ ht))]
            · rw [T.get_set, if_neg (fun (e : t = d) => g2 (e ▸ ht))]
        · obtain rfl := List.mem_singleton.1 hj
          rw [ho] at hoj; cases hoj
          exact absurd hla (by rw [lays_of_reads hread]; simp)
      tms := fun t u hu hno => by
        have hno' : ∀ j o, j ∈ pot → L j = false → ops[j]? = some o → o.dst ≠ some t := fun j oj hj hL hoj => hno j oj (List.mem_append_left _ hj) hL hoj
        have hi : o.dst ≠ some t := hno i o (List.mem_append_right _ (List.mem_singleton.2 rfl)) hLi ho
        rcases ht with ⟨_, rfl⟩ | ⟨d, hd', _, rfl⟩
        · exact dr.tms t u hu hno'
        · rw [T.get_set, if_neg (fun e => hi (by rw [hd', e]))] at hu
          exact dr.tms t u hu hno' }
  refine ⟨w0.pend, r, _, _, w, Steps.refl _ _, hr, .drawn ⟨rfl, hd, rfl, rfl, hrn⟩ rfl ops plan td (i :: ex) (pot ++ [i]) L li k rfl rfl hdr (recheck_rd hrc hrec) (fun j hj oj d hoj hdd => ?_) it, ca, rfl, hre⟩
  · rcases List.mem_append.1 hj with hj | hj
    · exact dl j hj oj d hoj hdd
    · obtain rfl := List.mem_singleton.1 hj
      rw [ho] at hoj; cases hoj
      rcases ht with ⟨hdn, _⟩ | ⟨d', hd', hlt, _⟩
      · rw [hdn] at hdd; cases hdd
      · rw [hd'] at hdd; cases hdd; exact hlt
/-- In a region that draws its order: an operation that acts is not wanted. -/
theorem drawn_skip {fn n i : Nat} {tm tm' : T V} {tmps : Array Value} {ops : Array Oper} {o : Oper} {rc : List Oper} {plan : List PS} {ex pot : List Nat} {L : Nat → Bool} {li : List Nat} {td : List AI} {k : List Item} {dfs : List AD} {ds : List Deferred} {dk : Bool} {rnd rn : Option Nat} {rest : List AF} {ca : List Frame}
    (hr : HR P w0 r h w) (hh : HD P w0 rest.length r ops o rc plan ex pot L i tm n tmps li) (it : IRs r td k) (hd : ADRs r dfs ds) (hrn : optAt r rnd rn) (hre : FHs P w0 r rest ca) (hw : Region.wanted o (yielded ops tmps) = false)
    (ht : (o.dst = none ∧ tm' = tm) ∨ ∃ e, o.dst = some e ∧ e < n ∧ tm' = tm.set e (.tup [])) (hrec : recheck P ops tm' h rc = true) :
    To P w0.w tail (fr fn tmps (.inRegion ops (i :: li) :: k) ds (kdOf dk) rn) (ca ++ tail) w ⟨⟨fn, n, tm', .dreg ops plan :: td, dfs, false, dk, rnd⟩, rest, h⟩ := by
  have hdr := hh.fin (.tup [] [] .nil) ht
  exact ⟨w0.pend, r, _, _, w, .one (st_opSkip hh.ho hw), hr, .drawn ⟨rfl, hd, rfl, rfl, hrn⟩ rfl ops plan td (i :: ex) pot _ li k rfl rfl hdr (recheck_rd hh.hrc hrec) hh.dl it, ca, rfl, hre⟩
/-- A region that draws its order is begun. -/
theorem drawn_begin {fn n id : Nat} {tm : T V} {tmps : Array Value} {ops : Array Oper} {plan : List PS} {td : List AI} {k : List Item} {dfs : List AD} {ds : List Deferred} {dk : Bool} {rnd rn : Option Nat} {rest : List AF} {ca : List Frame}
    (hr : HR P w0 r h w) (tr : TR r tm n tmps) (it : IRs r td k) (hd : ADRs r dfs ds) (hrn : optAt r rnd rn) (hre : FHs P w0 r rest ca) (hp : planOf P ops = some plan) :
    To P w0.w tail (fr fn tmps (.code (.region id ops true) :: k) ds (kdOf dk) rn) (ca ++ tail) w ⟨⟨fn, n, tm, .dreg ops plan :: td, dfs, false, dk, rnd⟩, rest, h⟩ := by
  obtain ⟨h1, h2, h3⟩ := plan_ok hp
  obtain ⟨t, hstep⟩ := st_draw (P := P) (fn := fn) (tmps := tmps) (k := k) (ds := ds) (kd := kdOf dk) (rn := rn) (cs := ca ++ tail) (w := w) (id := id) (ops := ops)
  rw [h3] at hstep
  refine ⟨w0.pend, r, _, _, _, .one hstep, hr.drew, .drawn ⟨rfl, hd, rfl, rfl, hrn⟩ rfl ops plan td [] [] (fun _ => false) _ k rfl rfl
    { plan := h1, fol := schedule_fol h2 t, shut := fun i o _ hi => by cases hi
      sub := fun j hj => by cases hj
      pend := fun j hj _ => hj
      potex := fun j hj => hj
      rdp := fun j hj => by cases hj
      looks := fun j _ _ _ _ hj => by cases hj
      size := tr.size
      tms := fun t v hv _ => tr.at_ t v hv
      alp := fun j _ hj => by cases hj } (fun i hi => by cases hi) (fun i hi => by cases hi) it, ca, rfl, hre⟩
end
end
end Go.Ev
