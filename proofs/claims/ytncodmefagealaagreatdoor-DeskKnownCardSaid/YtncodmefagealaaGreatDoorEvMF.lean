/- Contracts of functions of the program, walked, and plain laws. -/
import Derived.Test.YtncodmefagealaaGreatDoorEvME
import Derived.Test.YtncodmefagealaaGreatDoorEvMD
/- The step machine goes with the world's machine: every step. -/
namespace Go.Ev
open Go Go.RowKit
noncomputable section
section
variable {P : Program} {w0 : Base} {w : World} {r : Ren} {h : H} {tail : List Frame} {s' : S}

theorem noRec {fn : Nat} {tmps : Array Value} {k : List Item} {ds : List Deferred} {dk : Bool} {rnd : Option Nat} {rest : List AF} {ca : List Frame} (hre : FHs P w0 r rest ca) (hk : recOk dk rnd rest = true) : rnd = none ∧ tryRecover (fr fn tmps k ds (kdOf dk) none) (ca ++ tail) = none := by
  unfold recOk at hk
  split at hk
  · cases hk
  · refine ⟨rfl, ?_⟩
    split at hk
    · simp [tryRecover, kdOf]
    · split at hk
      · cases hk
      · rename_i a b
        cases hre with
        | cons _ f _ y hf _ =>
        have hm : f.mode = if a.ret then .returning else .run := by
          cases hf with
          | plain fb => exact fb.mode
          | held fb => exact fb.mode
        simp only [kdOf, if_true, tryRecover, List.cons_append, hm]
        cases a.ret <;> rfl
/-- An operation that acts, in a region that goes by the text. -/
theorem reg_act {fn n : Nat} {tm : T V} {tmps : Array Value} {ops : Array Oper} {o : Oper} {l : List Oper} {i : Nat} {li : List Nat} {td : List AI} {k : List Item} {dfs : List AD} {ds : List Deferred} {dk : Bool} {rnd rn : Option Nat} {rest : List AF} {ca : List Frame}
    (hr : HR P w0 r h w) (tr : TR r tm n tmps) (ho : ops[i]? = some o) (hreg : RegL ops li l) (hit : IRs r td k) (hd : ADRs r dfs ds) (hre : FHs P w0 r rest ca) (hw : Region.wanted o (yielded ops tmps) = true)
    (hk : actK P tm.get h o none
                (fun v h => putK tm n o.dst v none fun tm => some ⟨⟨fn, n, tm, .reg ops l :: td, dfs, false, dk, rnd⟩, rest, h⟩)
                (fun f args => match fnI P f with
                  | none => match extH P f args h with
                    | none => none
                    | some (v, h) => nfK v fun v => putK tm n o.dst v none fun tm => some ⟨⟨fn, n, tm, .reg ops l :: td, dfs, false, dk, rnd⟩, rest, h⟩
                  | some (m, c) => callN f m c args false (⟨fn, n, tm, .reg ops (o :: l) :: td, dfs, false, dk, rnd⟩ :: rest) h)
                (fun r args => roundK r args (⟨fn, n, tm, .reg ops (o :: l) :: td, dfs, false, dk, rnd⟩ :: rest) h)
                (fun d => match rnd with
                  | none => putK tm n o.dst (.tup []) none fun tm => some ⟨⟨fn, n, tm, .reg ops l :: td, d :: dfs, false, dk, rnd⟩, rest, h⟩
                  | some _ => none)
                (match recOk dk rnd rest with
                  | true => putK tm n o.dst .nilIface none fun tm => some ⟨⟨fn, n, tm, .reg ops l :: td, dfs, false, dk, rnd⟩, rest, h⟩
                  | false => none) = some s') (hrn : optAt r rnd rn) :
    To P w0.w w0.at0 w0.far tail (fr fn tmps (.inRegion ops (i :: li) :: k) ds (kdOf dk) rn) (ca ++ tail) w s' := by
  have hheld : FHs P w0 r (⟨fn, n, tm, .reg ops (o :: l) :: td, dfs, false, dk, rnd⟩ :: rest) (fr fn tmps (.inRegion ops (i :: li) :: k) ds (kdOf dk) rn :: ca) :=
    .cons _ _ _ _ (.plain ⟨rfl, hd, rfl, rfl, hrn⟩ tr (.cons _ _ _ _ (.reg _ _ _ (.cons _ _ _ _ ho hreg)) hit)) hre
  have hout := act_step (ops := ops) hr (tr.lr (o := o)) hk
  cases hout with
  | val v h' r' x w' hr' hl hv hs hk' =>
    have hnd : rn = none ∨ ∀ c, o.op ≠ .defer c := .inr fun c e => by
      have hrun : ∀ {y : Value} {w2 : World}, ¬ (execOp (Act.eval ⟨tmps, []⟩) o).run P w = .ok (.value y) w2 ∧ ¬ (execOp (Act.eval ⟨tmps, []⟩) o).run P w = .ok .skip w2 := by
        intro y w2
        have e1 : execOp (Act.eval ⟨tmps, []⟩) o = (do pure (.defer (← resolve (Act.eval ⟨tmps, []⟩) c o.type))) := by
          obtain ⟨_, op, _, _, _, _⟩ := o
          dsimp only at e; subst e; rfl
        rw [e1]
        simp only [Sem.run_bind, Sem.run_pure]
        cases (resolve (Act.eval ⟨tmps, []⟩) c o.type).run P w <;> simp [Result.andThen]
      rcases hs with hs | ⟨hs, _⟩
      · exact hrun.1 hs
      · exact (hrun (y := .nilIface)).2 hs
    obtain ⟨tm', hk2, htm⟩ := putK_ok hk'
    cases hk2
    have tr' := (tr.mono hl).putA hv htm
    rcases hs with hs | ⟨hs, rfl⟩
    · exact to_run (st_opVal ho hw hnd hs) hr' tr' (.cons _ _ _ _ (.reg _ _ _ hreg) (hit.mono hl)) (hd.mono hl) (hrn.mono hl) (hre.mono hl)
    · exact to_run (st_opSkp ho hw hnd hs) hr' tr' (.cons _ _ _ _ (.reg _ _ _ hreg) (hit.mono hl)) (hd.mono hl) (hrn.mono hl) (hre.mono hl)
  | call f args xs hv hs hk' =>
    split at hk'
    · -- the model gives it
      split at hk'
      · cases hk'
      rename_i u h2 hu
      rw [nfK_eq] at hk'
      obtain ⟨r', x, w', hr', hl, hx, hrun⟩ := extH_ok hr hv hu
      have hs' := hs.trans hrun
      have hnd : rn = none ∨ ∀ c, o.op ≠ .defer c := .inr fun c e => by
        have e1 : execOp (Act.eval ⟨tmps, []⟩) o = (do pure (.defer (← resolve (Act.eval ⟨tmps, []⟩) c o.type))) := by
          obtain ⟨_, op, _, _, _, _⟩ := o
          dsimp only at e; subst e; rfl
        rw [e1] at hs'
        simp only [Sem.run_bind, Sem.run_pure] at hs'
        cases hres : (resolve (Act.eval ⟨tmps, []⟩) c o.type).run P w <;> rw [hres] at hs' <;> simp [Result.andThen] at hs'
      obtain ⟨tm', hk2, htm⟩ := putK_ok hk'
      cases hk2
      exact to_run (st_opVal ho hw hnd hs') hr' ((tr.mono hl).putA hx htm) (.cons _ _ _ _ (.reg _ _ _ hreg) (hit.mono hl)) (hd.mono hl) (hrn.mono hl) (hre.mono hl)
    rename_i m c hf
    obtain ⟨hc, hrep⟩ := callN_ok (tail := tail) hr hv hheld hf hk'
    have hnd : rn = none ∨ ∀ c, o.op ≠ .defer c := .inr fun c e => by
      rw [hc w] at hs
      have e1 : execOp (Act.eval ⟨tmps, []⟩) o = (do pure (.defer (← resolve (Act.eval ⟨tmps, []⟩) c o.type))) := by
        obtain ⟨_, op, _, _, _, _⟩ := o
        dsimp only at e; subst e; rfl
      rw [e1] at hs
      simp only [Sem.run_bind, Sem.run_pure] at hs
      cases hres : (resolve (Act.eval ⟨tmps, []⟩) c o.type).run P w <;> rw [hres] at hs <;> simp [Result.andThen] at hs
    exact ⟨w0.pend, r, _, _, w, .one (st_opEnter ho hw hnd (by rw [hs]; exact hc w)), hrep⟩
  | round b c args xs hc hv hs hk' =>
    obtain ⟨f, t, a, b', hy, hrep⟩ := roundK_ok (tail := tail) hr hc hv hheld hk'
    have hnd : rn = none ∨ ∀ c, o.op ≠ .defer c := .inr fun c e => by
      rw [hy] at hs
      have e1 : execOp (Act.eval ⟨tmps, []⟩) o = (do pure (.defer (← resolve (Act.eval ⟨tmps, []⟩) c o.type))) := by
        obtain ⟨_, op, _, _, _, _⟩ := o
        dsimp only at e; subst e; rfl
      rw [e1] at hs
      simp only [Sem.run_bind, Sem.run_pure] at hs
      cases hres : (resolve (Act.eval ⟨tmps, []⟩) c o.type).run P w <;> rw [hres] at hs <;> simp [Result.andThen] at hs
    exact ⟨w0.pend, r, _, _, w, .one (st_opRound ho hw hnd (by rw [hs]; exact hy)), hrep⟩
  | defer d D hdd hs hk' =>
    cases rnd with
    | some q => cases hk'
    | none =>
      obtain rfl : rn = none := hrn
      obtain ⟨tm', hk2, htm⟩ := putK_ok hk'
      cases hk2
      exact to_run (st_opDefer ho hw hs) hr (tr.putA (.tup [] [] .nil) htm) (.cons _ _ _ _ (.reg _ _ _ hreg) hit) (.cons _ _ _ _ hdd hd) rfl hre
  | recover hs hk' =>
    split at hk'
    · rename_i hrec
      obtain ⟨rfl, htr⟩ := noRec (fn := fn) (tmps := tmps) (k := .inRegion ops (i :: li) :: k) (ds := ds) (tail := tail) hre hrec
      obtain rfl : rn = none := hrn
      obtain ⟨tm', hk2, htm⟩ := putK_ok hk'
      cases hk2
      exact to_run (st_opRecover ho hw hs htr) hr (tr.putA .nilIface htm) (.cons _ _ _ _ (.reg _ _ _ hreg) hit) hd rfl hre
    · cases hk'
/-- An operation that acts, in a region that draws its order. -/
theorem dreg_act {fn n i : Nat} {tm : T V} {tmps : Array Value} {ops : Array Oper} {o : Oper} {rc : List Oper} {plan : List PS} {ex pot : List Nat} {L : Nat → Bool} {li : List Nat} {td : List AI} {k : List Item} {dfs : List AD} {ds : List Deferred} {dk : Bool} {rnd rn : Option Nat} {rest : List AF} {ca : List Frame}
    (hr : HR P w0 r h w) (hh : HD P w0 rest.length r ops o rc plan ex pot L i tm n tmps li) (hit : IRs r td k) (hd : ADRs r dfs ds) (hre : FHs P w0 r rest ca) (hw : Region.wanted o (yielded ops tmps) = true)
    (hk : actK P tm.get h o none
                (fun v h => putK tm n o.dst v none fun tm => match recheck P ops tm h rc with
                  | true => some ⟨⟨fn, n, tm, .dreg ops plan :: td, dfs, false, dk, rnd⟩, rest, h⟩
                  | false => none)
                (fun f args => match fnI P f with
                  | none => match extH P f args h with
                    | none => none
                    | some (v, h) => nfK v fun v => putK tm n o.dst v none fun tm => match recheck P ops tm h rc with
                      | true => some ⟨⟨fn, n, tm, .dreg ops plan :: td, dfs, false, dk, rnd⟩, rest, h⟩
                      | false => none
                  | some (m, c) => callN f m c args false (⟨fn, n, tm, .dreg ops (.act o rc :: plan) :: td, dfs, false, dk, rnd⟩ :: rest) h)
                (fun r args => roundK r args (⟨fn, n, tm, .dreg ops (.act o rc :: plan) :: td, dfs, false, dk, rnd⟩ :: rest) h)
                (fun _ => none)
                none = some s') (hrn : optAt r rnd rn) :
    To P w0.w w0.at0 w0.far tail (fr fn tmps (.inRegion ops (i :: li) :: k) ds (kdOf dk) rn) (ca ++ tail) w s' := by
  have hheld : FHs P w0 r (⟨fn, n, tm, .dreg ops (.act o rc :: plan) :: td, dfs, false, dk, rnd⟩ :: rest) (fr fn tmps (.inRegion ops (i :: li) :: k) ds (kdOf dk) rn :: ca) :=
    .cons _ _ _ _ (.held ⟨rfl, hd, rfl, rfl, hrn⟩ rfl ops o rc plan td ex pot L i li k rfl rfl hh hit) hre
  have hndef : ∀ c, o.op = .defer c → execOp (Act.eval ⟨tmps, []⟩) o = (do pure (.defer (← resolve (Act.eval ⟨tmps, []⟩) c o.type))) := fun c e => by
    obtain ⟨_, op, _, _, _, _⟩ := o
    dsimp only at e; subst e; rfl
  have hout := act_step (ops := ops) hr hh.lr hk
  cases hout with
  | val v h' r' x w' hr' hl hv hs hk' =>
    have hnd : rn = none ∨ ∀ c, o.op ≠ .defer c := .inr fun c e => by
      rcases hs with hs | ⟨hs, _⟩ <;> rw [hndef c e] at hs <;> simp only [Sem.run_bind, Sem.run_pure] at hs <;>
        cases hres : (resolve (Act.eval ⟨tmps, []⟩) c o.type).run P w <;> rw [hres] at hs <;> simp [Result.andThen] at hs
    obtain ⟨tm', hk2, htm⟩ := putK_ok hk'
    split at hk2
    · rename_i hrec
      cases hk2
      have hdr := (hh.mono hl fun _ _ _ hb => hb).fin hv htm
      have hstab := recheck_rd hh.hrc hrec
      have hfin : step P (lone (fr fn tmps (.inRegion ops (i :: li) :: k) ds (kdOf dk) rn) (ca ++ tail) w) = .next (lone (fr fn (putA tmps o.dst x) (.inRegion ops li :: k) ds (kdOf dk) rn) (ca ++ tail) w') → To P w0.w w0.at0 w0.far tail (fr fn tmps (.inRegion ops (i :: li) :: k) ds (kdOf dk) rn) (ca ++ tail) w ⟨⟨fn, n, tm', .dreg ops plan :: td, dfs, false, dk, rnd⟩, rest, h'⟩ := fun hstep =>
        ⟨w0.pend, r', _, _, w', .one hstep, hr', .drawn ⟨rfl, hd.mono hl, rfl, rfl, hrn.mono hl⟩ rfl ops plan td (i :: ex) pot _ li k rfl rfl hdr hstab hh.dl (hit.mono hl), ca, rfl, hre.mono hl⟩
      rcases hs with hs | ⟨hs, rfl⟩
      · exact hfin (st_opVal hh.ho hw hnd hs)
      · exact hfin (st_opSkp hh.ho hw hnd hs)
    · cases hk2
  | call f args xs hv hs hk' =>
    split at hk'
    · split at hk'
      · cases hk'
      rename_i u h2 hu
      rw [nfK_eq] at hk'
      obtain ⟨r', x, w', hr', hl, hx, hrun⟩ := extH_ok hr hv hu
      have hs' := hs.trans hrun
      have hnd : rn = none ∨ ∀ c, o.op ≠ .defer c := .inr fun c e => by
        rw [hndef c e] at hs'
        simp only [Sem.run_bind, Sem.run_pure] at hs'
        cases hres : (resolve (Act.eval ⟨tmps, []⟩) c o.type).run P w <;> rw [hres] at hs' <;> simp [Result.andThen] at hs'
      obtain ⟨tm', hk2, htm⟩ := putK_ok hk'
      split at hk2
      · rename_i hrec
        cases hk2
        exact ⟨w0.pend, r', _, _, w', .one (st_opVal hh.ho hw hnd hs'), hr', .drawn ⟨rfl, hd.mono hl, rfl, rfl, hrn.mono hl⟩ rfl ops plan td (i :: ex) pot _ li k rfl rfl ((hh.mono hl fun _ _ _ hb => hb).fin hx htm) (recheck_rd hh.hrc hrec) hh.dl (hit.mono hl), ca, rfl, hre.mono hl⟩
      · cases hk2
    rename_i m c hf
    obtain ⟨hc, hrep⟩ := callN_ok (tail := tail) hr hv hheld hf hk'
    have hnd : rn = none ∨ ∀ c, o.op ≠ .defer c := .inr fun c e => by
      rw [hc w, hndef c e] at hs
      simp only [Sem.run_bind, Sem.run_pure] at hs
      cases hres : (resolve (Act.eval ⟨tmps, []⟩) c o.type).run P w <;> rw [hres] at hs <;> simp [Result.andThen] at hs
    exact ⟨w0.pend, r, _, _, w, .one (st_opEnter hh.ho hw hnd (by rw [hs]; exact hc w)), hrep⟩
  | round b c args xs hc hv hs hk' =>
    obtain ⟨f, t, a, b', hy, hrep⟩ := roundK_ok (tail := tail) hr hc hv hheld hk'
    have hnd : rn = none ∨ ∀ c, o.op ≠ .defer c := .inr fun c e => by
      rw [hy, hndef c e] at hs
      simp only [Sem.run_bind, Sem.run_pure] at hs
      cases hres : (resolve (Act.eval ⟨tmps, []⟩) c o.type).run P w <;> rw [hres] at hs <;> simp [Result.andThen] at hs
    exact ⟨w0.pend, r, _, _, w, .one (st_opRound hh.ho hw hnd (by rw [hs]; exact hy)), hrep⟩
  | defer d D hdd hs hk' => cases hk'
  | recover hs hk' => cases hk'
end
end
end Go.Ev
/- The step machine goes with the world's machine: every step. -/
namespace Go.Ev
open Go Go.RowKit
noncomputable section
section
variable {P : Program} {w0 : Base} {w : World} {r : Ren} {h : H} {tail : List Frame} {s' : S}

theorem FTop.ret_of {dp : Nat} {a : AF} {f : Frame} (ht : FTop P w0 dp r h a f) (hret : a.ret = true) : ∃ tmps k ds rn, f = ⟨a.fn, tmps, k, ds, .returning, kdOf a.dk, rn⟩ ∧ ADRs r a.dfs ds ∧ optAt r a.rnd rn ∧ TR r a.tm a.n tmps ∧ IRs r a.todo k := by
  cases ht with
  | plain fb tr it =>
    obtain ⟨ffn, ftmps, ftodo, fds, fmode, fkind, frn⟩ := f
    obtain ⟨b1, b2, b3, b4, b5⟩ := fb
    dsimp only at b1 b2 b3 b4 b5 tr it
    subst b1 b3 b4
    exact ⟨ftmps, ftodo, fds, frn, by rw [hret]; rfl, b2, b5, tr, it⟩
  | drawn fb hrun => rw [hret] at hrun; cases hrun
theorem FHeld.top {dp : Nat} {a : AF} {f : Frame} (ht : FHeld P w0 dp r a f) (hret : a.ret = true) : FTop P w0 dp r h a f ∧ f.mode = .returning := by
  cases ht with
  | plain fb tr it => exact ⟨.plain fb tr it, by rw [fb.mode, hret]; rfl⟩
  | held fb hrun => rw [hret] at hrun; cases hrun
/-- A call put off is begun. -/
theorem defer_call {fn n g : Nat} {tm : T V} {tmps : Array Value} {todo : List AI} {k : List Item} {args : List V} {dfs : List AD} {ds : List Deferred} {dk : Bool} {rnd rn : Option Nat} {rest : List AF} {ca : List Frame}
    (hr : HR P w0 r h w) (tr : TR r tm n tmps) (it : IRs r todo k) (hd : ADRs r (.call g args :: dfs) ds) (hrn : optAt r rnd rn) (hre : FHs P w0 r rest ca)
    (hk : callK P g args true (⟨fn, n, tm, todo, dfs, true, dk, rnd⟩ :: rest) h = some s') :
    To P w0.w w0.at0 w0.far tail ⟨fn, tmps, k, ds, .returning, kdOf dk, rn⟩ (ca ++ tail) w s' := by
  cases hd with
  | cons _ d _ ds' hd hds =>
  cases hd with
  | call _ _ cap xs hv =>
  obtain ⟨hc, hrep⟩ := callK_ok (tail := tail) hr hv (.cons _ ⟨fn, tmps, k, ds', .returning, kdOf dk, rn⟩ _ _ (.plain ⟨rfl, hds, rfl, rfl, hrn⟩ tr it) hre) hk
  refine ⟨w0.pend, r, _, _, w, .one (step_defer (f := g) (args := ⟨xs ++ cap⟩) (by simp) rfl rfl ?_), hrep⟩
  have e : (invoke (.fn (.func g) ⟨cap⟩) ⟨xs⟩) = callFunc g ⟨xs ++ cap⟩ := by
    simp [invoke]
  rw [e]; exact hc w
/-- A mark is taken. -/
theorem defer_mark {fn n b : Nat} {tm : T V} {tmps : Array Value} {todo : List AI} {k : List Item} {dfs : List AD} {ds : List Deferred} {dk : Bool} {rnd rn : Option Nat} {rest : List AF} {ca : List Frame}
    (hr : HR P w0 r h w) (tr : TR r tm n tmps) (it : IRs r todo k) (hd : ADRs r (.mark b :: dfs) ds) (hrn : optAt r rnd rn) (hre : FHs P w0 r rest ca) (hb : h.t.get b = some .dfr) :
    To P w0.w w0.at0 w0.far tail ⟨fn, tmps, k, ds, .returning, kdOf dk, rn⟩ (ca ++ tail) w ⟨⟨fn, n, tm, todo, dfs, true, dk, rnd⟩, rest, ⟨h.t.set b .dfrNone, h.nx⟩⟩ := by
  cases hd with
  | cons _ d _ ds' hd hds =>
  cases hd with
  | mark _ c hc =>
  obtain ⟨c', hc', hO, _⟩ := hr.ob b _ hb rfl _ hc
  obtain rfl : c' = c := by rw [hc] at hc'; exact (Option.some.inj hc').symm
  have hr2 : HR P w0 r ⟨h.t.set b .dfrNone, h.nx⟩ { w with heap := w.heap.setIfInBounds c' (.deferred none) } :=
    hr.upd (o' := .dfrNone) hb rfl rfl hc (Upd.setObj _) fun _ => trivial
  exact ⟨w0.pend, r, _, _, _, .one (st_mark hO), hr2, .plain ⟨rfl, hds, rfl, rfl, hrn⟩ tr it, ca, rfl, hre⟩
/-- A frame is left. -/
theorem leave_end {fn n : Nat} {tm : T V} {tmps : Array Value} {k : List Item} {dk : Bool} {rn : Option Nat} {c : AF} {rest : List AF} {ca : List Frame} {v : V}
    (hr : HR P w0 r h w) (tr : TR r tm n tmps) (hre : FHs P w0 r (c :: rest) ca) (hv : results P fn tm h = some v)
    (hk : (match dk with
            | true => match c.ret with
              | true => some (⟨c, rest, h⟩ : S)
              | false => none
            | false => match c.ret with
              | true => none
              | false => finishK P c h v none fun c => some ⟨c, rest, h⟩) = some s') :
    To P w0.w w0.at0 w0.far tail ⟨fn, tmps, k, [], .returning, kdOf dk, rn⟩ (ca ++ tail) w s' := by
  obtain ⟨F, x, hF, hvr, hrun⟩ := results_ok hr tr hv
  cases hre with
  | cons _ X _ Y hX hY =>
  cases dk with
  | true =>
    dsimp only at hk
    split at hk
    · rename_i hret
      cases hk
      obtain ⟨ht, hm⟩ := hX.top (h := h) hret
      refine ⟨w0.pend, r, _, _, w, .one (step_going_returned (c := X) (cs := Y ++ tail) rfl ⟨rfl, rfl, F, hF, hrun⟩), hr, ?_, Y, rfl, hY⟩
      have : ({ X with mode := settle X.mode } : Frame) = X := by
        rw [hm]
        obtain ⟨ffn, ftmps, ftodo, fds, fmode, fkind, frn⟩ := X
        dsimp only at hm
        subst hm; rfl
      rw [this]; exact ht
    · cases hk
  | false =>
    dsimp only at hk
    split at hk
    · cases hk
    · rename_i hret
      exact ⟨w0.pend, r, _, _, w, .one (step_leave_returned (c := X) (cs := Y ++ tail) ⟨rfl, rfl, rfl, F, hF, hrun⟩), finishK_ok hr hX hvr hY hret hk⟩
/-- A range over a function is begun. -/
theorem rf_ok {fn n g : Nat} {tm : T V} {tmps : Array Value} {f : Operand} {params : Array Tmp} {a b : Code} {td : List AI} {k : List Item} {dfs : List AD} {ds : List Deferred} {dk : Bool} {rest : List AF} {ca : List Frame} {first cap : List V}
    (hr : HR P w0 r h w) (tr : TR r tm n tmps) (it : IRs r td k) (hd : ADRs r dfs ds) (hre : FHs P w0 r rest ca) (hf : ev tm.get f = some (.fn g first cap))
    (hk : (newObjK h .dfr fun r h => newObjK h (.loop .ready none fn n tm params.toList a b r) fun l h =>
                callK P g (first ++ .yld l :: cap) false (⟨fn, n, tm, .inRF l :: td, .mark r :: dfs, false, dk, none⟩ :: rest) h) = some s') :
    To P w0.w w0.at0 w0.far tail (fr fn tmps (.code (.rangeFunc f params a b) :: k) ds (kdOf dk) none) (ca ++ tail) w s' := by
  obtain ⟨p, q, he, hp, hq⟩ := ((ER.of (ds := []) hr tr.at_ : ER r tm.get (Act.eval ⟨tmps, []⟩)) f _ hf).fn_inv
  obtain ⟨h1, r1, hr1, l1, a1, _, hk1⟩ := newObjK_ok (o := .deferred (some [])) (ao := .dfr) hr rfl hk
  have hsz : (w.alloc (.deferred (some []))).heap.size = w.heap.size + 1 := by simp
  have le2 := Ren.ext_le (c := (w.alloc (.deferred (some []))).heap.size) (k := 0) hr1.none_nx
  obtain ⟨h2, r2, hr2, l2, a2, _, hk2⟩ := newObjK_ok (o := .loop { state := .ready, pending := none, fn := fn, tmps := tmps, params := params, assign := a, body := b, defers := w.heap.size }) (ao := .loop .ready none fn n tm params.toList a b h.nx) hr1
    ⟨tmps, w.heap.size, by simp, (tr.mono l1).mono le2, (le2 _ _ a1).1⟩ hk1
  have hl : r.le r2 := Ren.le_trans l1 l2
  rw [hsz] at a2
  have hv : VRs r2 (first ++ .yld h1.nx :: cap) (p ++ .func (.yield (w.heap.size + 1)) #[] #[] :: q) := (hp.mono hl).append (.cons _ _ _ _ (.yld _ _ a2) (hq.mono hl))
  obtain ⟨hc, hrep⟩ := callK_ok (tail := tail) (dk := false) hr2 hv (.cons ⟨fn, n, tm, .inRF h1.nx :: td, .mark h.nx :: dfs, false, dk, none⟩ (fr fn tmps (.inRangeFunc (w.heap.size + 1) :: k) ({ target := .collected w.heap.size, args := #[] } :: ds) (kdOf dk) none) _ _
    (.plain ⟨rfl, .cons _ _ _ _ (.mark _ _ (l2 _ _ a1).1) (hd.mono hl), rfl, rfl, rfl⟩ (tr.mono hl) (.cons _ _ _ _ (.inRF _ _ a2) (it.mono hl))) (hre.mono hl)) hk2
  have hg : ∀ (d : World) (args : Array Value), (callFunc g args).run P d = .ok (.enter g args) d := by
    unfold callK at hk2
    split at hk2
    · cases hk2
    rename_i m c hf
    obtain ⟨_, _, _, _, hcall⟩ := fnI_spec hf
    exact fun d args => hcall args d
  exact ⟨w0.pend, r2, _, _, _, .one (st_rangeFunc he hg), hrep⟩
theorem To.pre {W : World} {A : Nat → Option Nat} {F : Nat → Option (Nat × Nat)} {f f1 : Frame} {cs cs1 : List Frame} {w1 : World} (hs : Steps P (lone f cs w) (lone f1 cs1 w1)) (ht : To P W A F tail f1 cs1 w1 s') : To P W A F tail f cs w s' := by
  obtain ⟨pd, r, f', cs', w', h1, h2⟩ := ht
  exact ⟨pd, r, f', cs', w', Steps.trans hs h1, h2⟩
theorem FTop.run_of {dp : Nat} {a : AF} {f : Frame} (ht : FTop P w0 dp r h a f) (hret : a.ret = false) (hno : ∀ ops plan td, a.todo ≠ .dreg ops plan :: td) : ∃ tmps k ds rn, f = fr a.fn tmps k ds (kdOf a.dk) rn ∧ ADRs r a.dfs ds ∧ optAt r a.rnd rn ∧ TR r a.tm a.n tmps ∧ IRs r a.todo k := by
  obtain ⟨tmps, k, ds, rn, h1, h2⟩ := ht.plain_of hno
  exact ⟨tmps, k, ds, rn, by rw [h1, hret]; rfl, h2⟩
theorem lays_of_reads {o : Oper} (h : reads P o = true) : lays o = false := by
  unfold reads at h
  unfold lays
  split at h <;> simp_all
/-- In a region that draws its order: an operation that only lays a block is carried out ahead. -/
theorem drawn_al {fn n i : Nat} {w1 : Base} {h1 : H} {tm tm' : T V} {tmps : Array Value} {ops : Array Oper} {o : Oper} {rc : List Oper} {p : PS} {plan : List PS} {ex pot : List Nat} {L : Nat → Bool} {li : List Nat} {td : List AI} {k : List Item} {dfs : List AD} {ds : List Deferred} {dk : Bool} {rnd rn : Option Nat} {rest : List AF} {ca : List Frame} {v : V}
    (hw1 : w1.w = w0.w) (ha1 : w1.at0 = w0.at0) (hf1 : w1.far = w0.far) (hpd : ∀ b e, w0.pend b = some e → w1.pend b = some e) (hr : HR P w1 r h1 w) (dr : DR P w0 rest.length r ops (p :: plan) ex pot L tm n tmps li) (dl : ∀ i ∈ pot, ∀ o d, ops[i]? = some o → o.dst = some d → d < n) (it : IRs r td k) (hd : ADRs r dfs ds) (hrn : optAt r rnd rn) (hre : FHs P w0 r rest ca)
    (ho : ops[i]? = some o) (hn : i ∉ ex) (hla : lays o = true)
    (hl : ∀ j oj d, j ∈ pot → ops[j]? = some oj → oj.dst = some d → d ∈ o.looksAt ops → Dep ops j i) (hs : ∀ d, o.dst = some d → d ∉ o.looksAt ops)
    (hf : ∀ j oj d, j ∈ pot → ops[j]? = some oj → o.dst = some d → d ∉ oj.looksAt ops) (hlt : ∀ j, j < ops.size → j ∉ ex → j ≠ i → Later ops o j)
    (hrc : opersOf ops ((pot ++ [i]).filter (isRd P ops)) = some rc) (hp : PlanOk P ops plan (i :: ex) (pot ++ [i])) (hal : AlSt P w1 rest.length ops tm' i o)
    (ht : (o.dst = none ∧ tm' = tm) ∨ ∃ e, o.dst = some e ∧ e < n ∧ tm' = tm.set e v) (hrec : recheck P ops tm' h1 rc = true) :
    To P w0.w w0.at0 w0.far tail (fr fn tmps (.inRegion ops li :: k) ds (kdOf dk) rn) (ca ++ tail) w ⟨⟨fn, n, tm', .dreg ops plan :: td, dfs, false, dk, rnd⟩, rest, h1⟩ := by
  have hLi : L i = false := by
    cases hL : L i with
    | false => rfl
    | true => exact absurd (dr.sub i hL) hn
  have hdr : DR P w1 rest.length r ops plan (i :: ex) (pot ++ [i]) L tm' n tmps li :=
    { plan := hp, fol := dr.fol, shut := dr.shut
      sub := fun j hj => List.mem_cons_of_mem _ (dr.sub j hj)
      pend := fun j hj hL => by
        rcases List.mem_cons.1 hj with rfl | hj
        · exact List.mem_append_right _ (List.mem_singleton.2 rfl)
        · exact List.mem_append_left _ (dr.pend j hj hL)
      potex := fun j hj => by
        rcases List.mem_append.1 hj with hj | hj
        · exact List.mem_cons_of_mem _ (dr.potex j hj)
        · rw [List.mem_singleton.1 hj]; exact List.mem_cons_self ..
      rdp := fun j hj => by
        rcases List.mem_append.1 hj with hj | hj
        · exact dr.rdp j hj
        · rw [List.mem_singleton.1 hj]; exact ⟨o, ho, .inr hla⟩
      looks := fun j oj j' oj' d hj hoj hj' hoj' hd' hlk => by
        rcases List.mem_append.1 hj with h1 | h1 <;> rcases List.mem_append.1 hj' with h2 | h2
        · exact dr.looks j oj j' oj' d h1 hoj h2 hoj' hd' hlk
        · obtain rfl := List.mem_singleton.1 h2
          rw [ho] at hoj'; cases hoj'
          exact absurd hlk (hf j oj d h1 hoj hd')
        · obtain rfl := List.mem_singleton.1 h1
          rw [ho] at hoj; cases hoj
          exact hl j' oj' d h2 hoj' hd' hlk
        · obtain rfl := List.mem_singleton.1 h1
          obtain rfl := List.mem_singleton.1 h2
          rw [ho] at hoj; cases hoj
          rw [ho] at hoj'; cases hoj'
          exact absurd hlk (hs d hd')
      size := dr.size
      alp := fun j oj hj hL hoj hla => by
        rcases List.mem_append.1 hj with hj | hj
        · obtain ⟨a1, a2⟩ := dr.alp j oj hj hL hoj hla
          refine ⟨?_, fun q hq hqe => a2 q hq fun hh => hqe (List.mem_cons_of_mem _ hh)⟩
          rcases ht with ⟨_, rfl⟩ | ⟨d, hd', _, rfl⟩
          · exact a1.congr (fun _ _ hc => hpd _ _ hc) (fun _ _ => rfl) (fun _ _ => rfl)
          · obtain ⟨g1, g2⟩ := a2 i (Array.getElem?_eq_some_iff.1 ho).1 hn o d ho hd'
            refine a1.congr (fun _ _ hc => hpd _ _ hc) (fun t ht => ?_) (fun t ht => ?_)
            · rw [T.get_set, if_neg (fun (e : t = d) => g1 (e ▸ ht))]
            · rw [T.get_set, if_neg (fun (e : t = d) => g2 (e ▸ ht))]
        · obtain rfl := List.mem_singleton.1 hj
          rw [ho] at hoj; cases hoj
          exact ⟨hal, fun q hq hqe => hlt q hq (fun hh => hqe (List.mem_cons_of_mem _ hh)) (fun e => hqe (e ▸ List.mem_cons_self ..))⟩
      tms := fun t u hu hno => by
        have hno' : ∀ j o, j ∈ pot → L j = false → ops[j]? = some o → o.dst ≠ some t := fun j oj hj hL hoj => hno j oj (List.mem_append_left _ hj) hL hoj
        have hi : o.dst ≠ some t := hno i o (List.mem_append_right _ (List.mem_singleton.2 rfl)) hLi ho
        rcases ht with ⟨_, rfl⟩ | ⟨d, hd', _, rfl⟩
        · exact dr.tms t u hu hno'
        · rw [T.get_set, if_neg (fun e => hi (by rw [hd', e]))] at hu
          exact dr.tms t u hu hno' }
  have hre1 : FHs P w1 r rest ca := hre.pd (Ren.le_refl r) fun b ao e j hb _ => hpd _ _ hb
  have hw1e : w1 = ⟨w0.w, w0.at0, w0.far, w1.pend⟩ := by rw [← hw1, ← ha1, ← hf1]
  refine ⟨w1.pend, r, _, _, w, Steps.refl _ _, ?_⟩
  rw [← hw1e]
  refine ⟨hr, .drawn ⟨rfl, hd, rfl, rfl, hrn⟩ rfl ops plan td (i :: ex) (pot ++ [i]) L li k rfl rfl hdr (recheck_rd hrc hrec) (fun j hj oj d hoj hdd => ?_) it, ca, rfl, hre1⟩
  rcases List.mem_append.1 hj with hj | hj
  · exact dl j hj oj d hoj hdd
  · obtain rfl := List.mem_singleton.1 hj
    rw [ho] at hoj; cases hoj
    rcases ht with ⟨hdn, _⟩ | ⟨d', hd', hlt, _⟩
    · rw [hdn] at hdd; cases hdd
    · rw [hd'] at hdd; cases hdd; exact hlt
/-- In a region that draws its order: an operation that only reads is carried out ahead. -/
theorem drawn_rd {fn n : Nat} {tm tm' : T V} {tmps : Array Value} {ops : Array Oper} {o : Oper} {rc : List Oper} {plan : List PS} {ex pot : List Nat} {L : Nat → Bool} {li : List Nat} {td : List AI} {k : List Item} {dfs : List AD} {ds : List Deferred} {dk : Bool} {rnd rn : Option Nat} {rest : List AF} {ca : List Frame} {v : V}
    (hr : HR P w0 r h w) (dr : DR P w0 rest.length r ops (.rd o rc :: plan) ex pot L tm n tmps li) (dl : ∀ i ∈ pot, ∀ o d, ops[i]? = some o → o.dst = some d → d < n) (it : IRs r td k) (hd : ADRs r dfs ds) (hrn : optAt r rnd rn) (hre : FHs P w0 r rest ca)
    (ht : (o.dst = none ∧ tm' = tm) ∨ ∃ e, o.dst = some e ∧ e < n ∧ tm' = tm.set e v) (hrec : recheck P ops tm' h rc = true) :
    To P w0.w w0.at0 w0.far tail (fr fn tmps (.inRegion ops li :: k) ds (kdOf dk) rn) (ca ++ tail) w ⟨⟨fn, n, tm', .dreg ops plan :: td, dfs, false, dk, rnd⟩, rest, h⟩ := by
  have hp := dr.plan
  cases hp with
  | rd i _ _ _ _ _ ho hn hread hl hs hf hrc hp =>
  have hLi : L i = false := by
    cases hL : L i with
    | false => rfl
    | true => exact absurd (dr.sub i hL) hn
  have hdr : DR P w0 rest.length r ops plan (i :: ex) (pot ++ [i]) L tm' n tmps li :=
    { plan := hp, fol := dr.fol, shut := dr.shut
      sub := fun j hj => List.mem_cons_of_mem _ (dr.sub j hj)
      pend := fun j hj hL => by
        rcases List.mem_cons.1 hj with rfl | hj
        · exact List.mem_append_right _ (List.mem_singleton.2 rfl)
        · exact List.mem_append_left _ (dr.pend j hj hL)
      potex := fun j hj => by
        rcases List.mem_append.1 hj with hj | hj
        · exact List.mem_cons_of_mem _ (dr.potex j hj)
        · rw [List.mem_singleton.1 hj]; exact List.mem_cons_self ..
      rdp := fun j hj => by
        rcases List.mem_append.1 hj with hj | hj
        · exact dr.rdp j hj
        · rw [List.mem_singleton.1 hj]; exact ⟨o, ho, .inl hread⟩
      looks := fun j oj j' oj' d hj hoj hj' hoj' hd' hlk => by
        rcases List.mem_append.1 hj with h1 | h1 <;> rcases List.mem_append.1 hj' with h2 | h2
        · exact dr.looks j oj j' oj' d h1 hoj h2 hoj' hd' hlk
        · obtain rfl := List.mem_singleton.1 h2
          rw [ho] at hoj'; cases hoj'
          exact absurd hlk (hf j oj d h1 hoj hd')
        · obtain rfl := List.mem_singleton.1 h1
          rw [ho] at hoj; cases hoj
          exact hl j' oj' d h2 hoj' hd' hlk
        · obtain rfl := List.mem_singleton.1 h1
          obtain rfl := List.mem_singleton.1 h2
          rw [ho] at hoj; cases hoj
          rw [ho] at hoj'; cases hoj'
          exact absurd hlk (hs d hd')
      size := dr.size
      alp := fun j oj hj hL hoj hla => by
        rcases List.mem_append.1 hj with hj | hj
        · obtain ⟨a1, a2⟩ := dr.alp j oj hj hL hoj hla
          refine ⟨?_, fun q hq hqe => a2 q hq fun hh => hqe (List.mem_cons_of_mem _ hh)⟩
          rcases ht with ⟨_, rfl⟩ | ⟨d, hd', _, rfl⟩
          · exact a1
          · obtain ⟨g1, g2⟩ := a2 i (Array.getElem?_eq_some_iff.1 ho).1 hn o d ho hd'
            refine a1.congr (fun _ _ hc => hc) (fun t ht => ?_) (fun t ht => ?_)
            · rw [T.get_set, if_neg (fun (e : t = d) => g1 (e ▸ ht))]
            · rw [T.get_set, if_neg (fun (e : t = d) => g2 (e ▸ ht))]
        · obtain rfl := List.mem_singleton.1 hj
          rw [ho] at hoj; cases hoj
          exact absurd hla (by rw [lays_of_reads hread]; simp)
      tms := fun t u hu hno => by
        have hno' : ∀ j o, j ∈ pot → L j = false → ops[j]? = some o → o.dst ≠ some t := fun j oj hj hL hoj => hno j oj (List.mem_append_left _ hj) hL hoj
        have hi : o.dst ≠ some t := hno i o (List.mem_append_right _ (List.mem_singleton.2 rfl)) hLi ho
        rcases ht with ⟨_, rfl⟩ | ⟨d, hd', _, rfl⟩
        · exact dr.tms t u hu hno'
        · rw [T.get_set, if_neg (fun e => hi (by rw [hd', e]))] at hu
          exact dr.tms t u hu hno' }
  refine ⟨w0.pend, r, _, _, w, Steps.refl _ _, hr, .drawn ⟨rfl, hd, rfl, rfl, hrn⟩ rfl ops plan td (i :: ex) (pot ++ [i]) L li k rfl rfl hdr (recheck_rd hrc hrec) (fun j hj oj d hoj hdd => ?_) it, ca, rfl, hre⟩
  · rcases List.mem_append.1 hj with hj | hj
    · exact dl j hj oj d hoj hdd
    · obtain rfl := List.mem_singleton.1 hj
      rw [ho] at hoj; cases hoj
      rcases ht with ⟨hdn, _⟩ | ⟨d', hd', hlt, _⟩
      · rw [hdn] at hdd; cases hdd
      · rw [hd'] at hdd; cases hdd; exact hlt
/-- In a region that draws its order: an operation that acts is not wanted. -/
theorem drawn_skip {fn n i : Nat} {tm tm' : T V} {tmps : Array Value} {ops : Array Oper} {o : Oper} {rc : List Oper} {plan : List PS} {ex pot : List Nat} {L : Nat → Bool} {li : List Nat} {td : List AI} {k : List Item} {dfs : List AD} {ds : List Deferred} {dk : Bool} {rnd rn : Option Nat} {rest : List AF} {ca : List Frame}
    (hr : HR P w0 r h w) (hh : HD P w0 rest.length r ops o rc plan ex pot L i tm n tmps li) (it : IRs r td k) (hd : ADRs r dfs ds) (hrn : optAt r rnd rn) (hre : FHs P w0 r rest ca) (hw : Region.wanted o (yielded ops tmps) = false)
    (ht : (o.dst = none ∧ tm' = tm) ∨ ∃ e, o.dst = some e ∧ e < n ∧ tm' = tm.set e (.tup [])) (hrec : recheck P ops tm' h rc = true) :
    To P w0.w w0.at0 w0.far tail (fr fn tmps (.inRegion ops (i :: li) :: k) ds (kdOf dk) rn) (ca ++ tail) w ⟨⟨fn, n, tm', .dreg ops plan :: td, dfs, false, dk, rnd⟩, rest, h⟩ := by
  have hdr := hh.fin (.tup [] [] .nil) ht
  exact ⟨w0.pend, r, _, _, w, .one (st_opSkip hh.ho hw), hr, .drawn ⟨rfl, hd, rfl, rfl, hrn⟩ rfl ops plan td (i :: ex) pot _ li k rfl rfl hdr (recheck_rd hh.hrc hrec) hh.dl it, ca, rfl, hre⟩
/-- A region that draws its order is begun. -/
theorem drawn_begin {fn n id : Nat} {tm : T V} {tmps : Array Value} {ops : Array Oper} {plan : List PS} {td : List AI} {k : List Item} {dfs : List AD} {ds : List Deferred} {dk : Bool} {rnd rn : Option Nat} {rest : List AF} {ca : List Frame}
    (hr : HR P w0 r h w) (tr : TR r tm n tmps) (it : IRs r td k) (hd : ADRs r dfs ds) (hrn : optAt r rnd rn) (hre : FHs P w0 r rest ca) (hp : planOf P ops = some plan) :
    To P w0.w w0.at0 w0.far tail (fr fn tmps (.code (.region id ops true) :: k) ds (kdOf dk) rn) (ca ++ tail) w ⟨⟨fn, n, tm, .dreg ops plan :: td, dfs, false, dk, rnd⟩, rest, h⟩ := by
  obtain ⟨h1, h2, h3⟩ := plan_ok hp
  obtain ⟨t, hstep⟩ := st_draw (P := P) (fn := fn) (tmps := tmps) (k := k) (ds := ds) (kd := kdOf dk) (rn := rn) (cs := ca ++ tail) (w := w) (id := id) (ops := ops)
  rw [h3] at hstep
  refine ⟨w0.pend, r, _, _, _, .one hstep, hr.drew, .drawn ⟨rfl, hd, rfl, rfl, hrn⟩ rfl ops plan td [] [] (fun _ => false) _ k rfl rfl
    { plan := h1, fol := schedule_fol h2 t, shut := fun i o _ hi => by cases hi
      sub := fun j hj => by cases hj
      pend := fun j hj _ => hj
      potex := fun j hj => hj
      rdp := fun j hj => by cases hj
      looks := fun j _ _ _ _ hj => by cases hj
      size := tr.size
      tms := fun t v hv _ => tr.at_ t v hv
      alp := fun j _ hj => by cases hj } (fun i hi => by cases hi) (fun i hi => by cases hi) it, ca, rfl, hre⟩
end
end
end Go.Ev
/- The step machine goes with the world's machine: every step, put together. -/
namespace Go.Ev
open Go Go.RowKit
noncomputable section
section
variable {P : Program} {w0 : Base} {w : World} {r : Ren} {tail : List Frame} {s' : S}

theorem code_ok {fn n : Nat} {tm : T V} {h : H} {tmps : Array Value} {c : Code} {td : List AI} {k : List Item} {dfs : List AD} {ds : List Deferred} {dk : Bool} {rnd rn : Option Nat} {rest : List AF} {ca : List Frame}
    (hr : HR P w0 r h w) (tr : TR r tm n tmps) (it : IRs r td k) (hd : ADRs r dfs ds) (hrn : optAt r rnd rn) (hre : FHs P w0 r rest ca)
    (hk : astep P ⟨⟨fn, n, tm, .code c :: td, dfs, false, dk, rnd⟩, rest, h⟩ = some s') :
    To P w0.w w0.at0 w0.far tail (fr fn tmps (.code c :: k) ds (kdOf dk) rn) (ca ++ tail) w s' := by
  cases c with
  | ret =>
    cases rnd with
    | none =>
      obtain rfl : rn = none := hrn
      have hk : some (⟨⟨fn, n, tm, .code .ret :: td, dfs, true, dk, none⟩, rest, h⟩ : S) = some s' := hk
      cases hk
      exact ⟨w0.pend, r, _, _, _, .one st_ret, hr, .plain ⟨rfl, hd, rfl, rfl, rfl⟩ tr (.cons _ _ _ _ (.code _) it), ca, rfl, hre⟩
    | some l =>
      have hk : astep.leave P dk l (some .ret) rest h = some s' := hk
      refine leave_ok hr hrn hre hk ?_
      rintro rfl c lp x y rfl h0
      exact st_leaveRet h0
  | skip =>
    have hk : some (⟨⟨fn, n, tm, td, dfs, false, dk, rnd⟩, rest, h⟩ : S) = some s' := hk
    cases hk
    exact to_run st_skip hr tr it hd hrn hre
  | label l =>
    have hk : some (⟨⟨fn, n, tm, td, dfs, false, dk, rnd⟩, rest, h⟩ : S) = some s' := hk
    cases hk
    exact to_run st_label hr tr it hd hrn hre
  | seq a b =>
    have hk : some (⟨⟨fn, n, tm, .code a :: .code b :: td, dfs, false, dk, rnd⟩, rest, h⟩ : S) = some s' := hk
    cases hk
    exact to_run st_seq hr tr (.cons _ _ _ _ (.code a) (.cons _ _ _ _ (.code b) it)) hd hrn hre
  | cond x a b =>
    dsimp only [astep] at hk
    have her : ER r tm.get (Act.eval ⟨tmps, []⟩) := ER.of hr tr.at_
    split at hk
    · rename_i hx
      cases hk
      exact to_run (st_cond (t := true) (her _ _ hx).bool_inv) hr tr (.cons _ _ _ _ (.code a) it) hd hrn hre
    · rename_i hx
      cases hk
      exact to_run (st_cond (t := false) (her _ _ hx).bool_inv) hr tr (.cons _ _ _ _ (.code b) it) hd hrn hre
    · cases hk
  | block id b =>
    have hk : some (⟨⟨fn, n, tm, .code b :: .inBlock id :: td, dfs, false, dk, rnd⟩, rest, h⟩ : S) = some s' := hk
    cases hk
    exact to_run st_block hr tr (.cons _ _ _ _ (.code b) (.cons _ _ _ _ (.inBlock id) it)) hd hrn hre
  | loop b =>
    have hk : some (⟨⟨fn, n, tm, .code b :: .inLoop b :: td, dfs, false, dk, rnd⟩, rest, h⟩ : S) = some s' := hk
    cases hk
    exact to_run st_loop hr tr (.cons _ _ _ _ (.code b) (.cons _ _ _ _ (.inLoop b) it)) hd hrn hre
  | scope b =>
    have hk : some (⟨⟨fn, n, tm, .code b :: .inScope b :: td, dfs, false, dk, rnd⟩, rest, h⟩ : S) = some s' := hk
    cases hk
    exact to_run st_scope hr tr (.cons _ _ _ _ (.code b) (.cons _ _ _ _ (.inScope b) it)) hd hrn hre
  | exit id =>
    dsimp only [astep] at hk
    obtain ⟨h1, h2⟩ := exitA_ok (id := id) it
    split at hk
    · rename_i td' he
      cases hk
      obtain ⟨k', hk', it'⟩ := h1 td' he
      exact to_run (st_exit hk') hr tr it' hd hrn hre
    · rename_i he
      split at hk
      · cases hk
      · refine leave_ok hr hrn hre hk ?_
        rintro rfl c lp x y rfl h0
        exact st_leaveExit h0 (h2 he)
  | goto l =>
    dsimp only [astep] at hk
    obtain ⟨h1, h2⟩ := gotoA_ok (l := l) it
    split at hk
    · rename_i td' he
      cases hk
      obtain ⟨k', hk', it'⟩ := h1 td' he
      exact to_run (st_goto hk') hr tr it' hd hrn hre
    · rename_i he
      split at hk
      · cases hk
      · refine leave_ok hr hrn hre hk ?_
        rintro rfl c lp x y rfl h0
        exact st_leaveGoto h0 (h2 he)
  | region id ops draw =>
    cases draw with
    | false =>
      have hk : some (⟨⟨fn, n, tm, .reg ops ops.toList :: td, dfs, false, dk, rnd⟩, rest, h⟩ : S) = some s' := hk
      cases hk
      exact to_run st_region hr tr (.cons _ _ _ _ (.reg _ _ _ (regL_all ops)) it) hd hrn hre
    | true =>
      dsimp only [astep] at hk
      split at hk
      · rename_i plan hp
        cases hk
        exact drawn_begin hr tr it hd hrn hre hp
      · cases hk
  | rangeFunc f params a b =>
    cases rnd with
    | some l => have hk : none = some s' := hk; cases hk
    | none =>
      obtain rfl : rn = none := hrn
      dsimp only [astep] at hk
      split at hk
      · rename_i g first cap hf
        exact rf_ok hr tr it hd hre hf hk
      · cases hk
  | refuse x => have hk : none = some s' := hk; cases hk
theorem reg_ok {fn n : Nat} {tm : T V} {h : H} {tmps : Array Value} {ops : Array Oper} {l : List Oper} {li : List Nat} {td : List AI} {k : List Item} {dfs : List AD} {ds : List Deferred} {dk : Bool} {rnd rn : Option Nat} {rest : List AF} {ca : List Frame}
    (hr : HR P w0 r h w) (tr : TR r tm n tmps) (hreg : RegL ops li l) (it : IRs r td k) (hd : ADRs r dfs ds) (hrn : optAt r rnd rn) (hre : FHs P w0 r rest ca)
    (hk : astep P ⟨⟨fn, n, tm, .reg ops l :: td, dfs, false, dk, rnd⟩, rest, h⟩ = some s') :
    To P w0.w w0.at0 w0.far tail (fr fn tmps (.inRegion ops li :: k) ds (kdOf dk) rn) (ca ++ tail) w s' := by
  cases hreg with
  | nil =>
    have hk : some (⟨⟨fn, n, tm, td, dfs, false, dk, rnd⟩, rest, h⟩ : S) = some s' := hk
    cases hk
    exact to_run st_regEnd hr tr it hd hrn hre
  | cons i o li l ho hreg =>
    dsimp only [astep] at hk
    split at hk
    · cases hk
    · rename_i hw
      have hw := wanted_ok (tr.lr (o := o) (ops := ops)) hw
      obtain ⟨tm', hk2, htm⟩ := putK_ok hk
      cases hk2
      exact to_run (st_opSkip ho hw) hr (tr.putA (.tup [] [] .nil) htm) (.cons _ _ _ _ (.reg _ _ _ hreg) it) hd hrn hre
    · rename_i hw
      have hw := wanted_ok (tr.lr (o := o) (ops := ops)) hw
      split at hk
      · rename_i hread
        split at hk
        · cases hk
        · rename_i v hv
          rw [nfK_eq] at hk
          obtain ⟨x, hvr, hrun⟩ := rd_step hr (tr.lr (o := o) (ops := ops)) hv
          obtain ⟨tm', hk2, htm⟩ := putK_ok hk
          cases hk2
          exact to_run (st_opVal ho hw (.inr (reads_noDefer hread)) hrun) hr (tr.putA hvr htm) (.cons _ _ _ _ (.reg _ _ _ hreg) it) hd hrn hre
      · exact reg_act hr tr ho hreg it hd hre hw hk hrn
theorem dreg_ok {fn n : Nat} {tm : T V} {h : H} {tmps : Array Value} {ops : Array Oper} {plan : List PS} {ex pot : List Nat} {L : Nat → Bool} {li : List Nat} {td : List AI} {k : List Item} {dfs : List AD} {ds : List Deferred} {dk : Bool} {rnd rn : Option Nat} {rest : List AF} {ca : List Frame}
    (hr : HR P w0 r h w) (dr : DR P w0 rest.length r ops plan ex pot L tm n tmps li) (st : ∀ i ∈ pot, ∀ o, ops[i]? = some o → reads P o = true → Stab P ops tm h o) (dl : ∀ i ∈ pot, ∀ o d, ops[i]? = some o → o.dst = some d → d < n)
    (it : IRs r td k) (hd : ADRs r dfs ds) (hrn : optAt r rnd rn) (hre : FHs P w0 r rest ca)
    (hk : astep P ⟨⟨fn, n, tm, .dreg ops plan :: td, dfs, false, dk, rnd⟩, rest, h⟩ = some s') :
    To P w0.w w0.at0 w0.far tail (fr fn tmps (.inRegion ops li :: k) ds (kdOf dk) rn) (ca ++ tail) w s' := by
  cases plan with
  | nil =>
    have hk : some (⟨⟨fn, n, tm, td, dfs, false, dk, rnd⟩, rest, h⟩ : S) = some s' := hk
    cases hk
    have hp := dr.plan
    cases hp with
    | nil _ _ hall =>
      obtain ⟨tmps', pd, r', w', hs, hr', hle, hpd, tr⟩ := drain_end (fn := fn) (k := k) (ds := ds) (kd := kdOf dk) (rn := rn) (cs := ca ++ tail) hall st dl li L tmps w0 r w hr dr
      exact .pre hs (to_run (w0 := ⟨w0.w, w0.at0, w0.far, pd⟩) st_regEnd hr' tr (it.mono hle) (hd.mono hle) (hrn.mono hle) (hre.pd hle fun b ao e j hb he => hpd b ao e j hb (by omega)))
  | cons p plan =>
    cases p with
    | rd o rc =>
      dsimp only [astep] at hk
      split at hk
      · cases hk
      · obtain ⟨tm', hk2, htm⟩ := putK_ok hk
        split at hk2
        · rename_i hrec
          cases hk2
          exact drawn_rd hr dr dl it hd hrn hre htm hrec
        · cases hk2
      · split at hk
        · cases hk
        · rw [nfK_eq] at hk
          obtain ⟨tm', hk2, htm⟩ := putK_ok hk
          split at hk2
          · rename_i hrec
            cases hk2
            exact drawn_rd hr dr dl it hd hrn hre htm hrec
          · cases hk2
    | al o rc =>
      have hp := dr.plan
      cases hp with
      | al i _ _ _ _ _ ho hn hla hl hs hf hlt hrc hp =>
      dsimp only [astep] at hk
      split at hk
      · cases hk
      · rename_i hw
        obtain ⟨tm', hk2, htm⟩ := putK_ok hk
        split at hk2
        · rename_i hrec
          cases hk2
          refine drawn_al rfl rfl rfl (fun _ _ h => h) hr dr dl it hd hrn hre ho hn hla hl hs hf hlt hrc hp ?_ htm hrec
          have hsame : ∀ t, t ∈ o.looksAt ops → tm'.get t = tm.get t := fun t ht => by
            rcases htm with ⟨_, rfl⟩ | ⟨d, hd', _, rfl⟩
            · rfl
            · rw [T.get_set, if_neg (fun (e : t = d) => hs d hd' (e ▸ ht))]
          refine .inl ⟨by rw [wantedA_congr hsame]; exact hw, fun d hdd => ?_⟩
          rcases htm with ⟨hdn, _⟩ | ⟨d', hd', _, rfl⟩
          · rw [hdn] at hdd; cases hdd
          · rw [hd'] at hdd; cases hdd
            rw [T.get_set, if_pos rfl]
        · cases hk2
      · rename_i hw
        rw [actK_congr (ev_same (ops := ops) (tm := tm))] at hk
        obtain ⟨ao, g, hk1, hout⟩ := lays_ok hla hk
        obtain ⟨tm', hk2, htm⟩ := putK_ok hk1
        split at hk2
        · rename_i hrec
          cases hk2
          refine drawn_al (w1 := ⟨w0.w, w0.at0, w0.far, fun x => if x = h.nx then some (ao, rest.length, i) else w0.pend x⟩) rfl rfl rfl (fun b e hb => ?_) (hr.ahead ao (rest.length, i)) dr dl it hd hrn hre ho hn hla hl hs hf hlt hrc hp ?_ htm hrec
          · have : b ≠ h.nx := fun e' => by have := (hr.keep b e hb).2.2; omega
            show (if b = h.nx then _ else w0.pend b) = _
            rw [if_neg this]; exact hb
          have hsame : ∀ t, t ∈ o.looksAt ops → tm'.get t = tm.get t := fun t ht => by
            rcases htm with ⟨_, rfl⟩ | ⟨d, hd', _, rfl⟩
            · rfl
            · rw [T.get_set, if_neg (fun (e : t = d) => hs d hd' (e ▸ ht))]
          refine .inr ⟨by rw [wantedA_congr hsame]; exact hw, h.nx, ao, g, by simp, fun d hdd => ?_, fun r' w' ρ hρ => hout r' w' ρ (by rw [seen_congr hsame] at hρ; exact hρ)⟩
          rcases htm with ⟨hdn, _⟩ | ⟨d', hd', _, rfl⟩
          · rw [hdn] at hdd; cases hdd
          · rw [hd'] at hdd; cases hdd
            rw [T.get_set, if_pos rfl]
        · cases hk2
    | act o rc =>
      have hp := dr.plan
      cases hp with
      | act i _ rcI _ _ _ _ ho hn h1 h2 h3 h4 hrc hp =>
      obtain ⟨tmps', li', L', pd, r', w', hs, hr', hle, hpd, hh⟩ := drain_act (fn := fn) (k := k) (ds := ds) (kd := kdOf dk) (rn := rn) (cs := ca ++ tail) ho hn h1 h2 h3 h4 hrc hp st dl li L tmps w0 r w hr dr
      refine .pre hs ?_
      have it := it.mono hle
      have hd := hd.mono hle
      have hrn := hrn.mono hle
      have hre : FHs P ⟨w0.w, w0.at0, w0.far, pd⟩ r' rest ca := hre.pd hle fun b ao e j hb he => hpd b ao e j hb (by omega)
      dsimp only [astep] at hk
      split at hk
      · cases hk
      · rename_i hw
        have hw := wanted_ok hh.lr hw
        obtain ⟨tm', hk2, htm⟩ := putK_ok hk
        split at hk2
        · rename_i hrec
          cases hk2
          exact drawn_skip (w0 := ⟨w0.w, w0.at0, w0.far, pd⟩) hr' hh it hd hrn hre hw htm hrec
        · cases hk2
      · rename_i hw
        have hw := wanted_ok hh.lr hw
        exact dreg_act (w0 := ⟨w0.w, w0.at0, w0.far, pd⟩) hr' hh it hd hre hw hk hrn
theorem loop_ok {fn n l : Nat} {tm : T V} {h : H} {tmps : Array Value} {td : List AI} {k : List Item} {c : Nat} {dfs : List AD} {ds : List Deferred} {dk : Bool} {rnd rn : Option Nat} {rest : List AF} {ca : List Frame}
    (hr : HR P w0 r h w) (tr : TR r tm n tmps) (hc : r.at_ l = some c) (it : IRs r td k) (hd : ADRs r dfs ds) (hrn : optAt r rnd rn) (hre : FHs P w0 r rest ca)
    (hk : astep P ⟨⟨fn, n, tm, .endRF l :: td, dfs, false, dk, rnd⟩, rest, h⟩ = some s') :
    To P w0.w w0.at0 w0.far tail (fr fn tmps (.endRangeFunc c :: k) ds (kdOf dk) rn) (ca ++ tail) w s' := by
  dsimp only [astep] at hk
  split at hk
  · rename_i st pe fn' n' tm' ps a b d hb
    obtain ⟨tmps', d', h0, ht, hd'⟩ := hr.loop hb hc
    split at hk
    · cases hk
    · rename_i hst
      have hstep := st_endRF (P := P) (fn := fn) (tmps := tmps) (k := k) (ds := ds) (kd := kdOf dk) (rn := rn) (cs := ca ++ tail) h0 (fun e => hst e)
      have hr2 := hr.setLoop (st' := .exhausted) (pe' := pe) hb hc h0 ht hd'
      rw [T.setK_eq] at hk
      cases pe with
      | none => cases hk; exact to_run hstep hr2 tr it hd hrn hre
      | some j => cases hk; exact to_run hstep hr2 tr (.cons _ _ _ _ (.code j) it) hd hrn hre
  · cases hk
theorem begin_ok {fn n : Nat} {tm : T V} {h : H} {tmps : Array Value} {td : List AI} {k : List Item} {dfs : List AD} {ds : List Deferred} {dk : Bool} {rnd rn : Option Nat} {rest : List AF} {ca : List Frame}
    (hr : HR P w0 r h w) (tr : TR r tm n tmps) (it : IRs r td k) (hd : ADRs r dfs ds) (hrn : optAt r rnd rn) (hre : FHs P w0 r rest ca)
    (hk : astep P ⟨⟨fn, n, tm, .beginRound :: td, dfs, false, dk, rnd⟩, rest, h⟩ = some s') :
    To P w0.w w0.at0 w0.far tail (fr fn tmps (.beginRound :: k) ds (kdOf dk) rn) (ca ++ tail) w s' := by
  dsimp only [astep] at hk
  split at hk
  · cases hk
  · rename_i l
    obtain ⟨c, hc, rfl⟩ := id hrn
    split at hk
    · rename_i pe fn' n' tm' ps a b d hb
      obtain ⟨tmps', d', h0, ht, hd'⟩ := hr.loop hb hc
      rw [T.setK_eq] at hk
      cases hk
      exact to_run (st_beginRound h0 rfl) (hr.setLoop hb hc h0 ht hd') tr it hd hrn hre
    · cases hk
/-- One step of the step machine: the world's machine goes with it. -/
theorem astep_ok {s : S} {f : Frame} {cs : List Frame} (hs : Rep P w0 tail s f cs w r) (hk : astep P s = some s') : To P w0.w w0.at0 w0.far tail f cs w s' := by
  obtain ⟨⟨fn, n, tm, todo, dfs, ret, dk, rnd⟩, rest, h⟩ := s
  obtain ⟨hr, htop, ca, rfl, hre⟩ := hs
  dsimp only at hr htop hre
  cases ret with
  | true =>
    obtain ⟨tmps, k, ds, rn, rfl, hd, hrn, tr, it⟩ := htop.ret_of rfl
    dsimp only at hd hrn tr it ⊢
    cases dfs with
    | nil =>
      obtain rfl : ds = [] := by cases hd; rfl
      dsimp only [astep] at hk
      split at hk
      · cases hk
      · split at hk
        · cases hk
        · rename_i v hv
          exact leave_end hr tr hre hv hk
    | cons d dfs =>
      cases d with
      | call g args => exact defer_call hr tr it hd hrn hre hk
      | mark b =>
        dsimp only [astep] at hk
        split at hk
        · rename_i hb
          rw [T.setK_eq] at hk
          cases hk
          exact defer_mark hr tr it hd hrn hre hb
        · cases hk
  | false =>
    by_cases hdr : ∃ ops plan td, todo = .dreg ops plan :: td
    · obtain ⟨ops, plan, td, rfl⟩ := hdr
      obtain ⟨ffn, ftmps, ftodo, fds, fmode, fkind, frn⟩ := f
      cases htop with
      | plain fb tr it =>
        dsimp only at it
        cases it with
        | cons _ b _ y hi hk' => cases hi
      | drawn fb hrun ops' plan' td' ex pot L l k ha hf dr st dl it =>
        obtain ⟨b1, b2, b3, b4, b5⟩ := fb
        dsimp only at b1 b2 b3 b4 b5 dr ha hf
        cases ha
        subst b1 b3 b4 hf
        exact dreg_ok hr dr st dl it b2 b5 hre hk
    · obtain ⟨tmps, k, ds, rn, rfl, hd, hrn, tr, it⟩ := htop.run_of rfl (fun ops plan td e => hdr ⟨ops, plan, td, e⟩)
      dsimp only at hd hrn tr it ⊢
      cases it with
      | nil =>
        cases rnd with
        | none =>
          obtain rfl : rn = none := hrn
          have hk : some (⟨⟨fn, n, tm, [], dfs, true, dk, none⟩, rest, h⟩ : S) = some s' := hk
          cases hk
          exact ⟨w0.pend, r, _, _, _, .one st_end, hr, .plain ⟨rfl, hd, rfl, rfl, rfl⟩ tr .nil, ca, rfl, hre⟩
        | some l =>
          have hk : astep.leave P dk l none rest h = some s' := hk
          refine leave_ok hr hrn hre hk ?_
          rintro rfl c lp x y rfl h0
          exact st_leaveEnd h0
      | cons a b td y hi it =>
        cases hi with
        | code c => exact code_ok hr tr it hd hrn hre hk
        | inBlock id =>
          have hk : some (⟨⟨fn, n, tm, td, dfs, false, dk, rnd⟩, rest, h⟩ : S) = some s' := hk
          cases hk
          exact to_run st_inBlock hr tr it hd hrn hre
        | inLoop b =>
          have hk : some (⟨⟨fn, n, tm, .code b :: .inLoop b :: td, dfs, false, dk, rnd⟩, rest, h⟩ : S) = some s' := hk
          cases hk
          exact to_run st_inLoop hr tr (.cons _ _ _ _ (.code b) (.cons _ _ _ _ (.inLoop b) it)) hd hrn hre
        | inScope b =>
          have hk : some (⟨⟨fn, n, tm, td, dfs, false, dk, rnd⟩, rest, h⟩ : S) = some s' := hk
          cases hk
          exact to_run st_inScope hr tr it hd hrn hre
        | reg ops l li hreg => exact reg_ok hr tr hreg it hd hrn hre hk
        | inRF l c hc => have hk : none = some s' := hk; cases hk
        | endRF l c hc => exact loop_ok hr tr hc it hd hrn hre hk
        | beginRound => exact begin_ok hr tr it hd hrn hre hk
theorem To.step {W : World} {A : Nat → Option Nat} {F : Nat → Option (Nat × Nat)} {f : Frame} {cs : List Frame} {s s2 : S} (ht : To P W A F tail f cs w s) (hk : astep P s = some s2) : To P W A F tail f cs w s2 := by
  obtain ⟨pd, r', f', cs', w', h1, h2⟩ := ht
  exact .pre h1 (astep_ok h2 hk)
/-- Many steps. -/
theorem arun_ok {W : World} {A : Nat → Option Nat} {F : Nat → Option (Nat × Nat)} {f : Frame} {cs : List Frame} : ∀ (k : Nat) {s s2 : S}, To P W A F tail f cs w s → arun P k s = some s2 → To P W A F tail f cs w s2
  | 0, s, s2, ht, hk => by
    have hk : some s = some s2 := hk
    cases hk; exact ht
  | k + 1, s, s2, ht, hk => by
    have hk : (match astep P s with | some s => arun P k s | none => none) = some s2 := hk
    split at hk
    · rename_i s1 h1
      exact arun_ok k (ht.step h1) hk
    · cases hk
end
end
end Go.Ev
/- The step machine: a run in pieces, and what a call does. -/
namespace Go.Ev
open Go Go.RowKit
noncomputable section
/-- Of a trie: the listed ones. -/
def keepK {α β : Type} (t : T α) (l : List Nat) : T α → (T α → β) → β :=
  List.rec (motive := fun _ => T α → (T α → β) → β) (fun acc k => k acc) (fun b _ ih acc k => Option.rec (motive := fun _ => β) (ih acc k) (fun o => T.setK o acc b fun acc => ih acc k) (t.get b)) l
/-- Some blocks and some of the top frame's values are forgotten. -/
def cutS (kb kt : List Nat) (s : S) : Option S :=
  match s with
  | ⟨⟨fn, n, tm, todo, dfs, ret, dk, rnd⟩, rest, ⟨t, nx⟩⟩ => match todo with
    | .dreg _ _ :: _ => none
    | td => keepK tm kt .e fun tm => keepK t kb .e fun t => some ⟨⟨fn, n, tm, td, dfs, ret, dk, rnd⟩, rest, ⟨t, nx⟩⟩
/-- A piece of a run. -/
def piece (P : Program) (k : Nat) (kb kt : List Nat) (s : S) : Option S :=
  match arun P k s with
  | some s => cutS kb kt s
  | none => none
-- to write states down
def cdAt (l : List Nat) : Code → Code :=
  List.rec (motive := fun _ => Code → Code) (fun c => c) (fun i _ ih c => match c with
    | .seq a b => match i with | 0 => ih a | _ => ih b
    | .cond _ a b => match i with | 0 => ih a | _ => ih b
    | .block _ b => ih b
    | .loop b => ih b
    | .scope b => ih b
    | .rangeFunc _ _ a b => match i with | 0 => ih a | _ => ih b
    | c => c) l
def bodyOf (P : Program) (f : Nat) : Code := match fnI P f with | some (_, c) => c | none => .skip
def opsAt (P : Program) (f : Nat) (l : List Nat) : Array Oper := match cdAt l (bodyOf P f) with | .region _ ops _ => ops | _ => #[]
def restAt (P : Program) (f : Nat) (l : List Nat) (j : Nat) : List Oper := (opsAt P f l).toList.drop j
def planAt (P : Program) (f : Nat) (l : List Nat) (j : Nat) : List PS := match planOf P (opsAt P f l) with | some p => p.drop j | none => []
def layT {α : Type} (l : List (Nat × α)) : T α := l.foldl (fun t p => T.setK p.2 t p.1 id) .e
def rowT (l : List V) : T V := setsK l .e 0 id
def apV (a b : List V) : List V := a ++ b
def rpV (n : Nat) (v : V) (l : List V) : List V := List.replicate n v ++ l
def apN (a b : List Nat) : List Nat := a ++ b
def rpN (n v : Nat) (l : List Nat) : List Nat := List.replicate n v ++ l
def bys (l : List Nat) : List V := l.map fun n => .int .u8 (.ofNat n)
section
variable {α : Type}
theorem keepK_eq {β : Type} (t : T α) : ∀ (l : List Nat) (acc : T α) (k : T α → β), ∃ u, keepK t l acc k = k u ∧ ∀ b o, u.get b = some o → t.get b = some o ∨ acc.get b = some o
  | [], acc, k => ⟨acc, rfl, fun b o h => .inr h⟩
  | b :: l, acc, k => by
    have e : keepK t (b :: l) acc k = Option.rec (motive := fun _ => β) (keepK t l acc k) (fun o => T.setK o acc b fun acc => keepK t l acc k) (t.get b) := rfl
    rw [e]
    cases hb : t.get b with
    | none => exact keepK_eq t l acc k
    | some o =>
      dsimp only
      rw [T.setK_eq]
      obtain ⟨u, h1, h2⟩ := keepK_eq t l (acc.set b o) k
      refine ⟨u, h1, fun c x hx => ?_⟩
      rcases h2 c x hx with h | h
      · exact .inl h
      · rw [T.get_set] at h
        split at h
        · rename_i hc; subst hc; cases h; exact .inl hb
        · exact .inr h
end
section
variable {P : Program} {w0 : Base} {w : World} {r : Ren} {tail : List Frame}
theorem HR.sub {h : H} {t : T AObj} (hr : HR P w0 r h w) (hs : ∀ b o, t.get b = some o → h.t.get b = some o) : HR P w0 r ⟨t, h.nx⟩ w :=
  ⟨fun b o hb hl d hd => hr.ob b o (hs b o hb) hl d hd, fun b b' o o' c hb hl hb' hl' => hr.inj b b' o o' c (hs b o hb) hl (hs b' o' hb') hl', hr.fresh, hr.glob, hr.below, fun b e h => ⟨fun o ho => (hr.keep b e h).1 o (hs b o ho), (hr.keep b e h).2⟩, hr.names, hr.low, hr.fars, hr.farok, hr.gsh, hr.nsh⟩
theorem TR.sub {tm tm' : T V} {n : Nat} {tmps : Array Value} (ht : TR r tm n tmps) (hs : ∀ b o, tm'.get b = some o → tm.get b = some o) : TR r tm' n tmps :=
  ⟨ht.size, fun t v hv => ht.at_ t v (hs t v hv)⟩
theorem Rep.cut {s s1 : S} {f : Frame} {cs : List Frame} {kb kt : List Nat} (hs : Rep P w0 tail s f cs w r) (hk : cutS kb kt s = some s1) : Rep P w0 tail s1 f cs w r := by
  obtain ⟨⟨fn, n, tm, todo, dfs, ret, dk, rnd⟩, rest, ⟨t, nx⟩⟩ := s
  obtain ⟨hr, htop, hre⟩ := hs
  unfold cutS at hk
  dsimp only at hk htop hr hre
  split at hk
  · cases hk
  · rename_i _ hno
    obtain ⟨tm', e1, h1⟩ := keepK_eq tm kt .e fun tm => keepK t kb .e fun t => some (⟨⟨fn, n, tm, todo, dfs, ret, dk, rnd⟩, rest, ⟨t, nx⟩⟩ : S)
    rw [e1] at hk
    obtain ⟨t', e2, h2⟩ := keepK_eq t kb .e fun t => some (⟨⟨fn, n, tm', todo, dfs, ret, dk, rnd⟩, rest, ⟨t, nx⟩⟩ : S)
    rw [e2] at hk
    cases hk
    have g1 : ∀ b o, tm'.get b = some o → tm.get b = some o := fun b o hb => by
      rcases h1 b o hb with h | h
      · exact h
      · rw [T.get_e] at h; cases h
    have g2 : ∀ b o, t'.get b = some o → t.get b = some o := fun b o hb => by
      rcases h2 b o hb with h | h
      · exact h
      · rw [T.get_e] at h; cases h
    refine ⟨HR.sub hr g2, ?_, hre⟩
    cases htop with
    | plain fb tr it =>
      obtain ⟨b1, b2, b3, b4, b5⟩ := fb
      exact .plain ⟨b1, b2, b3, b4, b5⟩ (tr.sub g1) it
    | drawn fb hrun ops plan td' ex pot L l k ha => exact absurd ha (fun e => hno _ _ _ e)
/-- A run begins: nothing is to come. -/
abbrev baseN (w : World) (a0 : Nat → Option Nat) (f0 : Nat → Option (Nat × Nat)) : Base := ⟨w, a0, f0, fun _ => none⟩
abbrev base (w : World) : Base := baseN w (fun _ => none) fun _ => none
theorem noFar {w : World} {a0 : Nat → Option Nat} : FarOk (baseN w a0 fun _ => none) := ⟨fun b p h => (by cases h), fun b b' p h => (by cases h)⟩
theorem To.piece {w0 : World} {a0 : Nat → Option Nat} {f0 : Nat → Option (Nat × Nat)} {f : Frame} {cs : List Frame} {s s1 : S} {k : Nat} {kb kt : List Nat} (ht : To P w0 a0 f0 tail f cs w s) (hk : piece P k kb kt s = some s1) : To P w0 a0 f0 tail f cs w s1 := by
  unfold Ev.piece at hk
  split at hk
  · rename_i s2 h2
    obtain ⟨pd, r, f', cs', w', h3, h4⟩ := arun_ok k ht h2
    exact ⟨pd, r, f', cs', w', h3, h4.cut hk⟩
  · cases hk
theorem To.begin {f : Nat} {args : List V} {xs : List Value} {h : H} {s : S} (hr : HR P (base w) r h w) (hv : VRs r args xs) (hk : callK P f args false [] h = some s) : To P w (fun _ => none) (fun _ => none) tail (Frame.enter P f ⟨xs⟩ .normal) tail w s :=
  ⟨(base w).pend, r, _, _, w, Steps.refl _ _, (callK_ok (tail := tail) (dk := false) hr hv .nil hk).2⟩
/-- What the step machine's result says of the call. -/
theorem calls_of {f : Nat} {xs : List Value} {v : V} (ht : ∀ tail, ∃ s, To P w (fun _ => none) (fun _ => none) tail (Frame.enter P f ⟨xs⟩ .normal) tail w s ∧ s.top.ret = true ∧ s.top.dfs = [] ∧ s.rest = [] ∧ s.top.dk = false ∧ s.top.fn = f ∧ results P f s.top.tm s.h = some v) :
    Calls P f ⟨xs⟩ w fun e w' => ∃ r x, e = .returned x ∧ VR r v x ∧ Below w.heap.size w w' := by
  intro cs
  obtain ⟨s, ⟨pd, r, f', cs', w', hsteps, hr, htop, ca, rfl, hre⟩, h1, h2, h3, h4, h5, h6⟩ := ht cs
  rw [h3] at hre
  cases hre
  obtain ⟨tmps, k, ds, rn, rfl, hd, hrn, tr, it⟩ := htop.ret_of h1
  rw [h2] at hd
  cases hd
  obtain ⟨fn, x, hF, hv, hrun⟩ := results_ok hr tr h6
  rw [h5, h4] at *
  exact ⟨.returned x, w', _, ⟨r, x, rfl, hv, hr.below⟩, hsteps, rfl, rfl, rfl, rfl, fn, hF, hrun⟩
/-- A run from a memory that is later than the world at the beginning. -/
theorem To.start {w0 : World} {a0 : Nat → Option Nat} {f0 : Nat → Option (Nat × Nat)} {f : Nat} {args : List V} {xs : List Value} {h : H} {s : S} (hr : HR P (baseN w0 a0 f0) r h w) (hv : VRs r args xs) (hk : callK P f args false [] h = some s) :
    To P w0 a0 f0 tail (Frame.enter P f ⟨xs⟩ .normal) tail w s :=
  ⟨(baseN w0 a0 f0).pend, r, _, _, w, Steps.refl _ _, (callK_ok (tail := tail) (dk := false) hr hv .nil hk).2⟩
/-- What the step machine's result says of the call: the value, and the memory behind it. -/
theorem calls_mem {w0 : World} {a0 : Nat → Option Nat} {f0 : Nat → Option (Nat × Nat)} {f : Nat} {xs : List Value} {v : V} {h : H} (ht : ∀ tail, ∃ s, To P w0 a0 f0 tail (Frame.enter P f ⟨xs⟩ .normal) tail w s ∧ s.top.ret = true ∧ s.top.dfs = [] ∧ s.rest = [] ∧ s.top.dk = false ∧ s.top.fn = f ∧ s.h = h ∧ results P f s.top.tm s.h = some v) :
    Calls P f ⟨xs⟩ w fun e w' => ∃ r x, e = .returned x ∧ VR r v x ∧ HR P (baseN w0 a0 f0) r h w' := by
  intro cs
  obtain ⟨s, ⟨pd, r, f', cs', w', hsteps, hr, htop, ca, rfl, hre⟩, h1, h2, h3, h4, h5, rfl, h6⟩ := ht cs
  rw [h3] at hre
  cases hre
  obtain ⟨tmps, k, ds, rn, rfl, hd, hrn, tr, it⟩ := htop.ret_of h1
  rw [h2] at hd
  cases hd
  obtain ⟨fn, x, hF, hv, hrun⟩ := results_ok hr tr h6
  rw [h5, h4] at *
  exact ⟨.returned x, w', _, ⟨r, x, rfl, hv, ⟨hr.ob, hr.inj, hr.fresh, hr.glob, hr.below, fun b e h => (by cases h), hr.names, hr.low, hr.fars, ⟨hr.farok.1, hr.farok.2⟩, hr.gsh, hr.nsh⟩⟩, hsteps, rfl, rfl, rfl, rfl, fn, hF, hrun⟩
/-- The named blocks are what they were. -/
theorem HR.later {w' : World} {h : H} (hr : HR P w0 r h w) (hb : Below w0.w.heap.size w0.w w') (hk : ∀ b c, r.at_ b = some c → (h.t.get b).isSome = true → w'.heap[c]? = w.heap[c]?) : HR P w0 r h w' :=
  ⟨fun b o hg hl d hd => by
    obtain ⟨c, hc, hO, hge⟩ := hr.ob b o hg hl d hd
    exact ⟨c, hc, by rw [hk b c hc (by rw [hg]; rfl)]; exact hO, hge⟩, hr.inj, hr.fresh, hr.glob, hb, hr.keep, hr.names, hr.low, hr.fars, hr.farok, hr.gsh, hr.nsh⟩
theorem layT_get {α : Type} {b : Nat} {o : α} : ∀ (l : List (Nat × α)) (acc : T α), (l.foldl (fun t p => T.setK p.2 t p.1 id) acc).get b = some o → (b, o) ∈ l ∨ acc.get b = some o
  | [], acc, h => .inr h
  | p :: l, acc, h => by
    rw [List.foldl_cons] at h
    rcases layT_get l _ h with h | h
    · exact .inl (List.mem_cons_of_mem _ h)
    · rw [T.setK_eq] at h
      have h2 : (acc.set p.1 p.2).get b = some o := h
      rw [T.get_set] at h2
      by_cases hb : b = p.1
      · rw [if_pos hb] at h2
        have h3 := Option.some.inj h2
        subst hb h3
        exact .inl (List.mem_cons_self ..)
      · rw [if_neg hb] at h2
        exact .inr h2
/-- A memory out of listed blocks. -/
theorem HR.of {a0 : Nat → Option Nat} {f0 : Nat → Option (Nat × Nat)} {W : World} {bs : List (Nat × AObj)} {nx : Nat} (hb : Below W.heap.size W w)
    (ho : ∀ b o, (b, o) ∈ bs → o.live = true → ∃ c, r.at_ b = some c ∧ OR P r w.heap[c]? b o ∧ (o.rw = true → W.heap.size ≤ c))
    (hi : ∀ b o b' o' c, (b, o) ∈ bs → (b', o') ∈ bs → r.at_ b = some c → r.at_ b' = some c → b = b')
    (hf : ∀ b, nx ≤ b → r.at_ b = none) (hg : ∀ g, g < 500 → r.at_ g = some g) (hn : ∀ b c, a0 b = some c → r.at_ b = some c) (hl : 1000 ≤ nx)
    (hfar : ∀ b c, 500 ≤ b → b < 1000 → r.at_ b = some c → f0 b = some (c, r.cap b)) (hfo : FarOk (baseN W a0 f0)) (hsh : ∀ b, r.sh b = 0) : HR P (baseN W a0 f0) r ⟨layT bs, nx⟩ w := by
  have hget : ∀ b o, (layT bs).get b = some o → (b, o) ∈ bs := fun b o h => (layT_get bs .e h).resolve_right (by rw [T.get_e]; simp)
  refine ⟨fun b o hbo hl d hd => ?_, fun b b' o o' c h1 _ h2 _ h3 h4 => hi b o b' o' c (hget _ _ h1) (hget _ _ h2) h3 h4, hf, hg, hb, fun b o h => (by cases h), hn, hl, hfar, hfo, fun g _ => hsh g, fun b _ _ => hsh b⟩
  exact ho b o (hget b o hbo) hl
end
end
end Go.Ev
/- The step machine: where a map's iterator may go several ways; calls that are known by what is proved of them. -/
namespace Go.Ev
open Go Go.RowKit
noncomputable section
section
variable {P : Program} {w0 : Base} {w : World} {r : Ren} {h : H} {tail : List Frame} {s' : S}
theorem ERs.mem {L : List (V × V × Nat)} {xs : List MapEntry} (hE : ERs r L xs) : ∀ e ∈ xs, ∃ a ∈ L, VR r a.1 e.key ∧ VR r a.2.1 e.val ∧ a.2.2 = e.born := by
  induction hE with
  | nil => intro e he; cases he
  | cons k v b x y es xs hk hv h ih =>
    intro e he
    rcases List.mem_cons.1 he with rfl | he
    · exact ⟨_, List.mem_cons_self .., hk, hv, rfl⟩
    · obtain ⟨a, ha, h⟩ := ih e he
      exact ⟨a, List.mem_cons_of_mem _ ha, h⟩
theorem next_any_ok (hr : HR P w0 r h w) {it m since last clock ty : Nat} {seen : List Nat} {es L : List (V × V × Nat)} {y : Value} (hy : VR r (.ptr it 0) y) (hb : h.t.get it = some (.mapIter (some m) since seen last)) (hm : h.t.get m = some (.map es clock))
    (hg : (!seen.isEmpty && !es.isEmpty && es.all fun e => Nat.ble last e.2.2) = false) (hall : es.all (fun e => Nat.ble (Nat.succ e.2.2) since) = true) (hf : es.filter (fun e => !seen.contains e.2.2) = L) (hL : 1 < L.length) :
    ∃ e ∈ L, ∃ x u w', HR P w0 r ⟨h.t.set it (.mapIter (some m) since (seen ++ [e.2.2]) clock), h.nx⟩ w' ∧ VR r e.1 x ∧ VR r e.2.1 u ∧ (Instr.next y false ty).run P w = .ok (.tuple #[.bool true, x, u]) w' := by
  obtain ⟨c, rfl, hc⟩ := hr.iter_ptr hb rfl hy
  obtain ⟨m', h0, cm, hcm, rfl⟩ := hr.iter hb hc
  obtain ⟨xs, h1, hE⟩ := hr.map hm hcm
  have hl := hE.arr seen
  rw [hf] at hl
  have hlt' : c < w.heap.size := (Array.getElem?_eq_some_iff.1 h0).1
  obtain ⟨_, _, n3⟩ := next_run (P := P) (ty := ty) h0 h1 (by rw [guard_eq hE]; exact hg)
  have hsz : (xs.filter fun e => !seen.toArray.contains e.born).size = L.length := by rw [hl.length, Array.length_toList]
  obtain ⟨e, w1, he, g1, g2, g3, g4, hrun⟩ := n3 (fun e he => by
    obtain ⟨a, ha, _, _, hab⟩ := hE.mem e (by simpa using he)
    have := Nat.le_of_ble_eq_true (List.all_eq_true.1 hall a ha)
    omega) (by rw [hsz]; exact hL)
  obtain ⟨a, ha, hk, hv, hab⟩ := hl.mem e (by simpa using he)
  have hr1 : HR P w0 r h w1 := hr.same g1 g2 g3 g4
  have hlt1 : c < w1.heap.size := by rw [g1]; exact hlt'
  refine ⟨a, ha, e.key, e.val, _, ?_, hk, hv, hrun⟩
  rw [hab]
  refine hr1.upd (o' := .mapIter (some m) since (seen ++ [e.born]) clock) hb rfl rfl hc (Upd.setObj _) fun _ => ⟨hr.iter_z hb rfl hc, some cm, ?_, cm, hcm, rfl⟩
  simp [hlt1]
/-- Where several entries may come: one of them comes. -/
theorem To.branch {W : World} {a0 : Nat → Option Nat} {f0 : Nat → Option (Nat × Nat)} {f : Frame} {cs : List Frame} {w : World} {s : S} {L : List (V × V × Nat)} (ht : To P W a0 f0 tail f cs w s) (hc : candsP P s = some L)
    (hall : ∀ e ∈ L, ∃ s', pickP P s e = some s') : ∃ e ∈ L, ∃ s', pickP P s e = some s' ∧ To P W a0 f0 tail f cs w s' := by
  obtain ⟨pd, r, f', cs', w', hsteps, hr, htop, ca, rfl, hre⟩ := ht
  unfold candsP at hc
  split at hc
  · rename_i fn n tm ops o l td dfs dk rnd rest h
    split at hc
    case h_2 => cases hc
    rename_i hgd
    split at hc
    · rename_i it hop
      split at hc
      · rename_i b hit
        split at hc
        · rename_i m since seen last hb
          split at hc
          · rename_i es clock hm
            split at hc
            · cases hc
            rename_i hg
            split at hc
            · cases hc
            rename_i hae
            split at hc
            · rename_i e1 e2 el hf
              cases hc
              obtain ⟨tmps, k, ds, rn, rfl, hd, hrn, tr, itd⟩ := htop.plain_of (by intro _ _ _ e; cases e)
              dsimp only at hd hrn tr itd hr hre
              cases itd with
              | cons _ _ _ y hi hk' =>
              cases hi with
              | reg _ _ li hreg =>
              cases hreg with
              | cons i _ li' _ ho hreg' =>
              have hER : ER r tm.get (Act.eval ⟨tmps, []⟩) := ER.of (ds := []) hr tr.at_
              obtain ⟨e, he, x, u, w2, hr2, hx, hu, hrun⟩ := next_any_ok (ty := o.type) hr (hER _ _ hit) hb hm hg hae hf (by simp)
              obtain ⟨s2, hs2⟩ := hall e he
              refine ⟨e, he, s2, hs2, ?_⟩
              unfold pickP at hs2
              simp only [hop, hit, hb, hm, nfK_eq, T.setK_eq] at hs2
              obtain ⟨tm', hk2, htm⟩ := putK_ok hs2
              cases hk2
              have hw := wanted_ok (tr.lr (o := o) (ops := ops)) hgd
              have hex : (execOp (Act.eval ⟨tmps, []⟩) o).run P w' = .ok (.value (.tuple #[.bool true, x, u])) w2 := by
                obtain ⟨dst, op, type, pos, after, guard⟩ := o
                dsimp only at hop hrun; subst hop
                exact exec_v hrun
              have hvr : VR r (.tup [.bool true, e.1, e.2.1]) (.tuple #[.bool true, x, u]) := .tup _ [_, _, _] (.cons _ _ _ _ (.bool true) (.cons _ _ _ _ hx (.cons _ _ _ _ hu .nil)))
              refine .pre hsteps ?_
              exact to_run (w0 := ⟨W, a0, f0, pd⟩) (st_opVal ho hw (.inr fun c e => by rw [hop] at e; cases e) hex) hr2 (tr.putA hvr htm) (.cons _ _ _ _ (.reg _ _ _ hreg') hk') hd hrn hre
            · cases hc
          · cases hc
        · cases hc
      · cases hc
    · cases hc
  · cases hc
theorem To.hook {W : World} {a0 : Nat → Option Nat} {f0 : Nat → Option (Nat × Nat)} {f : Frame} {cs : List Frame} {w : World} {s s2 : S} {g : Nat} {args : List V} {v : V} {h' : H} {mc : Nat × Code} (ht : To P W a0 f0 tail f cs w s) (hc : callI s = some (g, args)) (hs2 : retI s v h' = some s2) (hfn : fnI P g = some mc)
    (hC : ∀ pd r w' xs, HR P ⟨W, a0, f0, pd⟩ r s.h w' → VRs r args xs → Calls P g ⟨xs⟩ w' fun e w2 => ∃ r2 x, e = .returned x ∧ r.le r2 ∧ VR r2 v x ∧ HR P ⟨W, a0, f0, pd⟩ r2 h' w2) : To P W a0 f0 tail f cs w s2 := by
  obtain ⟨pd, r, f', cs', w', hsteps, hr, htop, ca, rfl, hre⟩ := ht
  unfold callI at hc
  split at hc
  · rename_i fn n tm ops o l td dfs dk rnd rest h
    split at hc
    case h_2 => cases hc
    rename_i hgd
    split at hc
    · rename_i x as0 ats hop
      split at hc
      · rename_i f1 first cap hf
        split at hc
        · rename_i as has
          cases hc
          obtain ⟨tmps, k, ds, rn, rfl, hd, hrn, tr, itd⟩ := htop.plain_of (by intro _ _ _ e; cases e)
          dsimp only at hd hrn tr itd hr hre hC
          cases itd with
          | cons _ _ _ y hi hk' =>
          cases hi with
          | reg _ _ li hreg =>
          cases hreg with
          | cons i _ li' _ ho hreg' =>
          have hER : ER r tm.get (Act.eval ⟨tmps, []⟩) := ER.of (ds := []) hr tr.at_
          obtain ⟨p, q, hfe, hp, hq⟩ := (hER _ _ hf).fn_inv
          have hA := evs_ok hER has
          have hw := wanted_ok (tr.lr (o := o) (ops := ops)) hgd
          have hargs := (hp.append hA).append hq
          have hex : (execOp (Act.eval ⟨tmps, []⟩) o).run P w' = (callFunc g ⟨p ++ as0.toList.map (Act.eval ⟨tmps, []⟩) ++ q⟩).run P w' := by
            obtain ⟨dst, op, type, pos, after, guard⟩ := o
            dsimp only at hop; subst hop
            simp only [execOp, resolve, Deferred.ofValue, hfe, map_list, Sem.run_bind, Sem.run_pure, andThen_ok, invoke]
            congr 2
            apply Array.ext'; simp
          obtain ⟨fnf, _, _, _, hcall⟩ := fnI_spec (f := g) (n := mc.1) (c := mc.2) hfn
          rw [hcall] at hex
          obtain ⟨e, w2, fr2, ⟨r2, x2, rfl, hle, hv, hr2⟩, hcomes, hfrn, hleave⟩ := hC pd r w' _ hr hargs (fr fn tmps (.inRegion ops (i :: li') :: y) ds (kdOf dk) rn :: (ca ++ tail))
          have hst1 := st_opEnter (fn := fn) (k := y) (ds := ds) (kd := kdOf dk) (rn := rn) (cs := ca ++ tail) (l := li') ho hw (.inr fun c e => by rw [hop] at e; cases e) hex
          have hst2 := step_leave_returned (c := fr fn tmps (.inRegion ops (i :: li') :: y) ds (kdOf dk) rn) (cs := ca ++ tail) hleave
          unfold retI at hs2
          dsimp only at hs2
          obtain ⟨tm', hk2, htm⟩ := putK_ok hs2
          cases hk2
          have hfin := fin_reg (fn := fn) (tmps := tmps) (k := y) (ds := ds) (kd := kdOf dk) (rn := rn) (l := li') ho x2 .run
          refine .pre hsteps (.pre (.one hst1) (.pre hcomes ?_))
          refine ⟨pd, r2, _, _, w2, .one hst2, hr2, ?_, ca, rfl, hre.mono hle⟩
          simp only at hfin
          rw [hfin]
          exact .plain ⟨rfl, hd.mono hle, rfl, rfl, hrn.mono hle⟩ ((tr.mono hle).putA hv htm) (.cons _ _ _ _ (.reg _ _ _ hreg') (hk'.mono hle))
        · cases hc
      · cases hc
    · cases hc
  · cases hc
end
end
end Go.Ev
