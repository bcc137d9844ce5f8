/- The step machine goes with the world's machine: every step. -/
import Derived.Test.YthadnmpneonmfaaGreatDoorEvZC
namespace Go.Ev
open Go Go.RowKit
noncomputable section
section
variable {P : Program} {w0 : Base} {w : World} {r : Ren} {h : H} {tail : List Frame} {s' : S}

theorem noRec {fn : Nat} {tmps : Array Value} {k : List Item} {ds : List Deferred} {dk : Bool} {rnd : Option Nat} {rest : List AF} {ca : List Frame} (hre : FHs P w0 r rest ca) (hk : recOk dk rnd rest = true) : rnd = none ∧ tryRecover (fr fn tmps k ds (kdOf dk) none) (ca ++ tail) = none := by
  unfold recOk at hk
  split at hk
  · cases hk
  · refine ⟨rfl, ?_⟩
    split at hk
    · simp [tryRecover, kdOf]
    · split at hk
      · cases hk
      · rename_i a b
        cases hre with
        | cons _ f _ y hf _ =>
        have hm : f.mode = if a.ret then .returning else .run := by
          cases hf with
          | plain fb => exact fb.mode
          | held fb => exact fb.mode
        simp only [kdOf, if_true, tryRecover, List.cons_append, hm]
        cases a.ret <;> rfl
/-- An operation that acts, in a region that goes by the text. -/
theorem reg_act {fn n : Nat} {tm : T V} {tmps : Array Value} {ops : Array Oper} {o : Oper} {l : List Oper} {i : Nat} {li : List Nat} {td : List AI} {k : List Item} {dfs : List AD} {ds : List Deferred} {dk : Bool} {rnd rn : Option Nat} {rest : List AF} {ca : List Frame}
    (hr : HR P w0 r h w) (tr : TR r tm n tmps) (ho : ops[i]? = some o) (hreg : RegL ops li l) (hit : IRs r td k) (hd : ADRs r dfs ds) (hre : FHs P w0 r rest ca) (hw : Region.wanted o (yielded ops tmps) = true)
    (hk : actK P tm.get h o none
                (fun v h => putK tm n o.dst v none fun tm => some ⟨⟨fn, n, tm, .reg ops l :: td, dfs, false, dk, rnd⟩, rest, h⟩)
                (fun f args => callK P f args false (⟨fn, n, tm, .reg ops (o :: l) :: td, dfs, false, dk, rnd⟩ :: rest) h)
                (fun r args => roundK r args (⟨fn, n, tm, .reg ops (o :: l) :: td, dfs, false, dk, rnd⟩ :: rest) h)
                (fun d => match rnd with
                  | none => putK tm n o.dst (.tup []) none fun tm => some ⟨⟨fn, n, tm, .reg ops l :: td, d :: dfs, false, dk, rnd⟩, rest, h⟩
                  | some _ => none)
                (match recOk dk rnd rest with
                  | true => putK tm n o.dst .nilIface none fun tm => some ⟨⟨fn, n, tm, .reg ops l :: td, dfs, false, dk, rnd⟩, rest, h⟩
                  | false => none) = some s') (hrn : optAt r rnd rn) :
    To P w0.w tail (fr fn tmps (.inRegion ops (i :: li) :: k) ds (kdOf dk) rn) (ca ++ tail) w s' := by
  have hheld : FHs P w0 r (⟨fn, n, tm, .reg ops (o :: l) :: td, dfs, false, dk, rnd⟩ :: rest) (fr fn tmps (.inRegion ops (i :: li) :: k) ds (kdOf dk) rn :: ca) :=
    .cons _ _ _ _ (.plain ⟨rfl, hd, rfl, rfl, hrn⟩ tr (.cons _ _ _ _ (.reg _ _ _ (.cons _ _ _ _ ho hreg)) hit)) hre
  have hout := act_step (ops := ops) hr (tr.lr (o := o)) hk
  cases hout with
  | val v h' r' x w' hr' hl hv hs hk' =>
    have hnd : rn = none ∨ ∀ c, o.op ≠ .defer c := .inr fun c e => by
      have hrun : ∀ {y : Value} {w2 : World}, ¬ (execOp (Act.eval ⟨tmps, []⟩) o).run P w = .ok (.value y) w2 ∧ ¬ (execOp (Act.eval ⟨tmps, []⟩) o).run P w = .ok .skip w2 := by
        intro y w2
        have e1 : execOp (Act.eval ⟨tmps, []⟩) o = (do pure (.defer (← resolve (Act.eval ⟨tmps, []⟩) c o.type))) := by
          obtain ⟨_, op, _, _, _, _⟩ := o
          dsimp only at e; subst e; rfl
        rw [e1]
        simp only [Sem.run_bind, Sem.run_pure]
        cases (resolve (Act.eval ⟨tmps, []⟩) c o.type).run P w <;> simp [Result.andThen]
      rcases hs with hs | ⟨hs, _⟩
      · exact hrun.1 hs
      · exact (hrun (y := .nilIface)).2 hs
    obtain ⟨tm', hk2, htm⟩ := putK_ok hk'
    cases hk2
    have tr' := (tr.mono hl).putA hv htm
    rcases hs with hs | ⟨hs, rfl⟩
    · exact to_run (st_opVal ho hw hnd hs) hr' tr' (.cons _ _ _ _ (.reg _ _ _ hreg) (hit.mono hl)) (hd.mono hl) (hrn.mono hl) (hre.mono hl)
    · exact to_run (st_opSkp ho hw hnd hs) hr' tr' (.cons _ _ _ _ (.reg _ _ _ hreg) (hit.mono hl)) (hd.mono hl) (hrn.mono hl) (hre.mono hl)
  | call f args xs hv hs hk' =>
    obtain ⟨hc, hrep⟩ := callK_ok (tail := tail) hr hv hheld hk'
    have hnd : rn = none ∨ ∀ c, o.op ≠ .defer c := .inr fun c e => by
      rw [hc w] at hs
      have e1 : execOp (Act.eval ⟨tmps, []⟩) o = (do pure (.defer (← resolve (Act.eval ⟨tmps, []⟩) c o.type))) := by
        obtain ⟨_, op, _, _, _, _⟩ := o
        dsimp only at e; subst e; rfl
      rw [e1] at hs
      simp only [Sem.run_bind, Sem.run_pure] at hs
      cases hres : (resolve (Act.eval ⟨tmps, []⟩) c o.type).run P w <;> rw [hres] at hs <;> simp [Result.andThen] at hs
    exact ⟨w0.pend, r, _, _, w, .one (st_opEnter ho hw hnd (by rw [hs]; exact hc w)), hrep⟩
  | round b c args xs hc hv hs hk' =>
    obtain ⟨f, t, a, b', hy, hrep⟩ := roundK_ok (tail := tail) hr hc hv hheld hk'
    have hnd : rn = none ∨ ∀ c, o.op ≠ .defer c := .inr fun c e => by
      rw [hy] at hs
      have e1 : execOp (Act.eval ⟨tmps, []⟩) o = (do pure (.defer (← resolve (Act.eval ⟨tmps, []⟩) c o.type))) := by
        obtain ⟨_, op, _, _, _, _⟩ := o
        dsimp only at e; subst e; rfl
      rw [e1] at hs
      simp only [Sem.run_bind, Sem.run_pure] at hs
      cases hres : (resolve (Act.eval ⟨tmps, []⟩) c o.type).run P w <;> rw [hres] at hs <;> simp [Result.andThen] at hs
    exact ⟨w0.pend, r, _, _, w, .one (st_opRound ho hw hnd (by rw [hs]; exact hy)), hrep⟩
  | defer d D hdd hs hk' =>
    cases rnd with
    | some q => cases hk'
    | none =>
      obtain rfl : rn = none := hrn
      obtain ⟨tm', hk2, htm⟩ := putK_ok hk'
      cases hk2
      exact to_run (st_opDefer ho hw hs) hr (tr.putA (.tup [] [] .nil) htm) (.cons _ _ _ _ (.reg _ _ _ hreg) hit) (.cons _ _ _ _ hdd hd) rfl hre
  | recover hs hk' =>
    split at hk'
    · rename_i hrec
      obtain ⟨rfl, htr⟩ := noRec (fn := fn) (tmps := tmps) (k := .inRegion ops (i :: li) :: k) (ds := ds) (tail := tail) hre hrec
      obtain rfl : rn = none := hrn
      obtain ⟨tm', hk2, htm⟩ := putK_ok hk'
      cases hk2
      exact to_run (st_opRecover ho hw hs htr) hr (tr.putA .nilIface htm) (.cons _ _ _ _ (.reg _ _ _ hreg) hit) hd rfl hre
    · cases hk'
/-- An operation that acts, in a region that draws its order. -/
theorem dreg_act {fn n i : Nat} {tm : T V} {tmps : Array Value} {ops : Array Oper} {o : Oper} {rc : List Oper} {plan : List PS} {ex pot : List Nat} {L : Nat → Bool} {li : List Nat} {td : List AI} {k : List Item} {dfs : List AD} {ds : List Deferred} {dk : Bool} {rnd rn : Option Nat} {rest : List AF} {ca : List Frame}
    (hr : HR P w0 r h w) (hh : HD P w0 rest.length r ops o rc plan ex pot L i tm n tmps li) (hit : IRs r td k) (hd : ADRs r dfs ds) (hre : FHs P w0 r rest ca) (hw : Region.wanted o (yielded ops tmps) = true)
    (hk : actK P tm.get h o none
                (fun v h => putK tm n o.dst v none fun tm => match recheck P ops tm h rc with
                  | true => some ⟨⟨fn, n, tm, .dreg ops plan :: td, dfs, false, dk, rnd⟩, rest, h⟩
                  | false => none)
                (fun f args => callK P f args false (⟨fn, n, tm, .dreg ops (.act o rc :: plan) :: td, dfs, false, dk, rnd⟩ :: rest) h)
                (fun r args => roundK r args (⟨fn, n, tm, .dreg ops (.act o rc :: plan) :: td, dfs, false, dk, rnd⟩ :: rest) h)
                (fun _ => none)
                none = some s') (hrn : optAt r rnd rn) :
    To P w0.w tail (fr fn tmps (.inRegion ops (i :: li) :: k) ds (kdOf dk) rn) (ca ++ tail) w s' := by
  have hheld : FHs P w0 r (⟨fn, n, tm, .dreg ops (.act o rc :: plan) :: td, dfs, false, dk, rnd⟩ :: rest) (fr fn tmps (.inRegion ops (i :: li) :: k) ds (kdOf dk) rn :: ca) :=
    .cons _ _ _ _ (.held ⟨rfl, hd, rfl, rfl, hrn⟩ rfl ops o rc plan td ex pot L i li k rfl rfl hh hit) hre
  have hndef : ∀ c, o.op = .defer c → execOp (Act.eval ⟨tmps, []⟩) o = (do pure (.defer (← resolve (Act.eval ⟨tmps, []⟩) c o.type))) := fun c e => by
    obtain ⟨_, op, _, _, _, _⟩ := o
    dsimp only at e; subst e; rfl
  have hout := act_step (ops := ops) hr hh.lr hk
  cases hout with
  | val v h' r' x w' hr' hl hv hs hk' =>
    have hnd : rn = none ∨ ∀ c, o.op ≠ .defer c := .inr fun c e => by
      rcases hs with hs | ⟨hs, _⟩ <;> rw [hndef c e] at hs <;> simp only [Sem.run_bind, Sem.run_pure] at hs <;>
        cases hres : (resolve (Act.eval ⟨tmps, []⟩) c o.type).run P w <;> rw [hres] at hs <;> simp [Result.andThen] at hs
    obtain ⟨tm', hk2, htm⟩ := putK_ok hk'
    split at hk2
    · rename_i hrec
      cases hk2
      have hdr := (hh.mono hl fun _ _ _ hb => hb).fin hv htm
      have hstab := recheck_rd hh.hrc hrec
      have hfin : step P (lone (fr fn tmps (.inRegion ops (i :: li) :: k) ds (kdOf dk) rn) (ca ++ tail) w) = .next (lone (fr fn (putA tmps o.dst x) (.inRegion ops li :: k) ds (kdOf dk) rn) (ca ++ tail) w') → To P w0.w tail (fr fn tmps (.inRegion ops (i :: li) :: k) ds (kdOf dk) rn) (ca ++ tail) w ⟨⟨fn, n, tm', .dreg ops plan :: td, dfs, false, dk, rnd⟩, rest, h'⟩ := fun hstep =>
        ⟨w0.pend, r', _, _, w', .one hstep, hr', .drawn ⟨rfl, hd.mono hl, rfl, rfl, hrn.mono hl⟩ rfl ops plan td (i :: ex) pot _ li k rfl rfl hdr hstab hh.dl (hit.mono hl), ca, rfl, hre.mono hl⟩
      rcases hs with hs | ⟨hs, rfl⟩
      · exact hfin (st_opVal hh.ho hw hnd hs)
      · exact hfin (st_opSkp hh.ho hw hnd hs)
    · cases hk2
  | call f args xs hv hs hk' =>
    obtain ⟨hc, hrep⟩ := callK_ok (tail := tail) hr hv hheld hk'
    have hnd : rn = none ∨ ∀ c, o.op ≠ .defer c := .inr fun c e => by
      rw [hc w, hndef c e] at hs
      simp only [Sem.run_bind, Sem.run_pure] at hs
      cases hres : (resolve (Act.eval ⟨tmps, []⟩) c o.type).run P w <;> rw [hres] at hs <;> simp [Result.andThen] at hs
    exact ⟨w0.pend, r, _, _, w, .one (st_opEnter hh.ho hw hnd (by rw [hs]; exact hc w)), hrep⟩
  | round b c args xs hc hv hs hk' =>
    obtain ⟨f, t, a, b', hy, hrep⟩ := roundK_ok (tail := tail) hr hc hv hheld hk'
    have hnd : rn = none ∨ ∀ c, o.op ≠ .defer c := .inr fun c e => by
      rw [hy, hndef c e] at hs
      simp only [Sem.run_bind, Sem.run_pure] at hs
      cases hres : (resolve (Act.eval ⟨tmps, []⟩) c o.type).run P w <;> rw [hres] at hs <;> simp [Result.andThen] at hs
    exact ⟨w0.pend, r, _, _, w, .one (st_opRound hh.ho hw hnd (by rw [hs]; exact hy)), hrep⟩
  | defer d D hdd hs hk' => cases hk'
  | recover hs hk' => cases hk'
end
end
end Go.Ev
