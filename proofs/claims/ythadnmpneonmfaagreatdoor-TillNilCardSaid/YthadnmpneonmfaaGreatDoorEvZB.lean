/- The step machine goes with the world's machine: control, leaving, rounds. -/
import Derived.Test.YthadnmpneonmfaaGreatDoorEvZA
namespace Go.Ev
open Go Go.RowKit
noncomputable section
section
variable {P : Program} {w0 : Base} {w : World} {r : Ren} {h : H} {tail : List Frame} {s' : S}
abbrev kdOf (dk : Bool) : CallKind := if dk then .deferred else .normal
theorem FTop.plain_of {dp : Nat} {a : AF} {f : Frame} (ht : FTop P w0 dp r h a f) (hno : ∀ ops plan td, a.todo ≠ .dreg ops plan :: td) : ∃ tmps k ds rn, f = ⟨a.fn, tmps, k, ds, if a.ret then .returning else .run, kdOf a.dk, rn⟩ ∧ ADRs r a.dfs ds ∧ optAt r a.rnd rn ∧ TR r a.tm a.n tmps ∧ IRs r a.todo k := by
  cases ht with
  | plain fb tr it =>
    obtain ⟨ffn, ftmps, ftodo, fds, fmode, fkind, frn⟩ := f
    obtain ⟨b1, b2, b3, b4, b5⟩ := fb
    dsimp only at b1 b2 b3 b4 b5 tr it
    subst b1 b3 b4
    exact ⟨ftmps, ftodo, fds, frn, rfl, b2, b5, tr, it⟩
  | drawn fb hrun ops plan td ex pot L l k ha => exact absurd ha (hno ops plan td)
theorem to_run {r' : Ren} {h' : H} {w' : World} {f : Frame} {cs ca : List Frame} {fn n : Nat} {tm' : T V} {todo' : List AI} {dfs' : List AD} {dk : Bool} {rnd rn : Option Nat} {rest : List AF} {tmps' : Array Value} {k' : List Item} {ds' : List Deferred}
    (hs : step P (lone f cs w) = .next (lone (fr fn tmps' k' ds' (kdOf dk) rn) (ca ++ tail) w')) (hr : HR P w0 r' h' w') (tr : TR r' tm' n tmps') (it : IRs r' todo' k') (hd : ADRs r' dfs' ds') (hrn : optAt r' rnd rn) (hre : FHs P w0 r' rest ca) :
    To P w0.w tail f cs w ⟨⟨fn, n, tm', todo', dfs', false, dk, rnd⟩, rest, h'⟩ :=
  ⟨w0.pend, r', _, _, w', .one hs, hr, .plain ⟨rfl, hd, rfl, rfl, hrn⟩ tr it, ca, rfl, hre⟩
theorem exitA_ok {id : Nat} : ∀ {td : List AI} {k : List Item}, IRs r td k → (∀ td', exitA id td = some td' → ∃ k', exitTo id k = some k' ∧ IRs r td' k') ∧ (exitA id td = none → exitTo id k = none)
  | _, _, .nil => ⟨by simp [exitA], fun _ => rfl⟩
  | _, _, .cons a b x y hi hk => by
    obtain ⟨h1, h2⟩ := exitA_ok (id := id) hk
    cases hi with
    | inBlock id' =>
      simp only [exitA, exitTo]
      cases hb : Nat.beq id' id with
      | true =>
        have : (id' == id) = true := by simpa using Nat.eq_of_beq_eq_true hb
        simp only [this, if_true]
        exact ⟨fun td' he => by cases he; exact ⟨y, rfl, hk⟩, by simp⟩
      | false =>
        have : (id' == id) = false := by simpa using Nat.ne_of_beq_eq_false hb
        simp only [this, Bool.false_eq_true, if_false]
        exact ⟨h1, h2⟩
    | _ => simpa only [exitA, exitTo] using ⟨h1, h2⟩
theorem gotoA_ok {l : Nat} : ∀ {td : List AI} {k : List Item}, IRs r td k → (∀ td', gotoA l td = some td' → ∃ k', gotoIn l k = some k' ∧ IRs r td' k') ∧ (gotoA l td = none → gotoIn l k = none)
  | _, _, .nil => ⟨by simp [gotoA], fun _ => rfl⟩
  | _, _, .cons a b x y hi hk => by
    obtain ⟨h1, h2⟩ := gotoA_ok (l := l) hk
    cases hi with
    | inScope body =>
      simp only [gotoA, gotoIn]
      cases hf : findLabel body l with
      | none => exact ⟨h1, h2⟩
      | some c => exact ⟨fun td' he => by cases he; exact ⟨_, rfl, .cons _ _ _ _ (.code c) (.cons _ _ _ _ (.inScope body) hk)⟩, by simp⟩
    | _ => simpa only [gotoA, gotoIn] using ⟨h1, h2⟩
theorem HR.loop (hr : HR P w0 r h w) {b c d n fn : Nat} {st : LoopState} {pe : Option Code} {tm : T V} {ps : List Tmp} {x y : Code} (hb : h.t.get b = some (.loop st pe fn n tm ps x y d)) (hc : r.at_ b = some c) :
    ∃ tmps d', w.heap[c]? = some (.loop ⟨st, pe, fn, tmps, ps.toArray, x, y, d'⟩) ∧ TR r tm n tmps ∧ r.at_ d = some d' := by
  obtain ⟨c', hc', hO, _⟩ := hr.ob b _ hb rfl _ hc
  obtain rfl : c' = c := by rw [hc] at hc'; exact (Option.some.inj hc').symm
  exact hO
theorem HR.setLoop (hr : HR P w0 r h w) {b c d n fn : Nat} {st st' : LoopState} {pe pe' : Option Code} {tm : T V} {ps : List Tmp} {x y : Code} {tmps : Array Value} {d' : Nat} (hb : h.t.get b = some (.loop st pe fn n tm ps x y d)) (hc : r.at_ b = some c)
    (h0 : w.heap[c]? = some (.loop ⟨st, pe, fn, tmps, ps.toArray, x, y, d'⟩)) (ht : TR r tm n tmps) (hd : r.at_ d = some d') :
    HR P w0 r ⟨h.t.set b (.loop st' pe' fn n tm ps x y d), h.nx⟩ { w with heap := w.heap.setIfInBounds c (.loop ⟨st', pe', fn, tmps, ps.toArray, x, y, d'⟩) } := by
  have hlt : c < w.heap.size := (Array.getElem?_eq_some_iff.1 h0).1
  exact hr.upd (o' := .loop st' pe' fn n tm ps x y d) hb rfl rfl hc (Upd.setObj _) fun _ => ⟨tmps, d', by simp [hlt], ht, hd⟩
/-- A round is left. -/
theorem leave_ok {l : Nat} {dk : Bool} {jump : Option Code} {rest : List AF} {f : Frame} {ca : List Frame} {rn : Option Nat} (hr : HR P w0 r h w) (hrn : optAt r (some l) rn) (hre : FHs P w0 r rest ca) (hk : astep.leave P dk l jump rest h = some s')
    (hst : dk = false → ∀ c lp (x : Frame) (y : List Frame), rn = some c → w.heap[c]? = some (.loop lp) → step P (lone f (x :: y) w) = .next (lone (x.finish (.bool jump.isNone)) y { w with heap := w.heap.setIfInBounds c (.loop { lp with state := if jump.isNone then .ready else .done, pending := jump }) })) :
    To P w0.w tail f (ca ++ tail) w s' := by
  obtain ⟨c, hc, rfl⟩ := hrn
  unfold astep.leave at hk
  split at hk
  · cases hk
  split at hk
  · rename_i st pe fn n tm ps a b d hb
    obtain ⟨tmps, d', h0, ht, hd⟩ := hr.loop hb hc
    rw [T.setK_eq] at hk
    split at hk
    · cases hk
    · rename_i x rest'
      split at hk
      · cases hk
      · rename_i hret
        cases hre with
        | cons _ X _ Y hX hY =>
        have hstep := hst rfl c _ X (Y ++ tail) rfl h0
        cases jump with
        | none =>
          have hr2 := hr.setLoop (st' := .ready) (pe' := none) hb hc h0 ht hd
          exact ⟨w0.pend, r, _, _, _, .one hstep, finishK_ok hr2 hX (.bool true) hY hret hk⟩
        | some j =>
          have hr2 := hr.setLoop (st' := .done) (pe' := some j) hb hc h0 ht hd
          exact ⟨w0.pend, r, _, _, _, .one hstep, finishK_ok hr2 hX (.bool false) hY hret hk⟩
  · cases hk
/-- What a frame that leaves gives. -/
theorem resVs_ok (hr : HR P w0 r h w) {tm : T V} {n : Nat} {tmps : Array Value} (ht : TR r tm n tmps) : ∀ {l : List ResultVar} {vs : List V}, resVs P tm h l = some vs →
    ∃ xs : List Value, VRs r vs xs ∧ ∀ g : ResultVar → Sem Value, (∀ t, g (.tmp t) = pure (tmps.getD t undef)) → (∀ a t, g (.cell a t) = do loadVar t (← asAddr (tmps.getD a undef))) → (l.mapM g).run P w = .ok xs w
  | [], vs, h => by cases h; exact ⟨[], .nil, fun _ _ _ => rfl⟩
  | rv :: l, vs, h => by
    simp only [resVs] at h
    split at h
    · rename_i v hv
      split at h
      · rename_i m hm
        cases h
        obtain ⟨xs, hvs, hrun⟩ := resVs_ok hr ht hm
        have hget : ∀ t u, tm.get t = some u → VR r u (tmps.getD t undef) := fun t u hu => by
          obtain ⟨x, hx, hvr⟩ := ht.at_ t u hu
          rw [Array.getD_eq_getD_getElem?, hx]; exact hvr
        cases rv with
        | tmp t =>
          refine ⟨_, .cons _ _ _ _ (hget t v hv) hvs, fun g g1 g2 => ?_⟩
          simp only [List.mapM_cons, g1, Sem.run_bind, Sem.run_pure, andThen_ok, hrun g g1 g2]
        | cell a t =>
          simp only [resV] at hv
          split at hv
          · rename_i b off ha
            obtain ⟨c, hc, hcat⟩ := (hget a _ ha).ptr_inv
            obtain ⟨x, hx, hl⟩ := loadT_ok hr hcat hv
            refine ⟨_, .cons _ _ _ _ hx hvs, fun g g1 g2 => ?_⟩
            simp only [List.mapM_cons, g2, Sem.run_bind, Sem.run_pure, andThen_ok, hrun g g1 g2, hc, asAddr, hl]
          · cases hv
      · cases h
    · cases h
theorem results_ok (hr : HR P w0 r h w) {tm : T V} {n f : Nat} {tmps : Array Value} (ht : TR r tm n tmps) {v : V} (hv : results P f tm h = some v) : ∃ fn x, P.funcs[f]? = some fn ∧ VR r v x ∧ (Go.results fn tmps).run P w = .ok x w := by
  unfold results at hv
  split at hv
  · rename_i fn hfn
    split at hv
    · rename_i l hl
      cases hv
      obtain ⟨xs, hvs, hrun⟩ := resVs_ok hr ht hl
      refine ⟨fn, if h : (⟨xs⟩ : Array Value).size = 1 then (⟨xs⟩ : Array Value)[0] else .tuple ⟨xs⟩, hfn, ?_, ?_⟩
      · cases hvs with
        | nil => exact .tup [] [] .nil
        | cons v x a y hx hy =>
          cases hy with
          | nil => exact hx
          | cons v2 x2 a2 y2 hx2 hy2 => exact .tup _ _ (.cons _ _ _ _ hx (.cons _ _ _ _ hx2 hy2))
      · unfold Go.results
        rw [Array.mapM_eq_mapM_toList]
        simp only [Sem.run_bind, Sem.run_map]
        rw [hrun _ (fun _ => rfl) (fun _ _ => rfl)]
        simp only [andThen_ok, Sem.run_pure]
    · cases hv
  · cases hv
end
end
end Go.Ev
