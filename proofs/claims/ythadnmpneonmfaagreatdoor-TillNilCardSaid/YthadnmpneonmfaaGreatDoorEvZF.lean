/- The step machine goes with the world's machine: every step, put together. -/
import Derived.Test.YthadnmpneonmfaaGreatDoorEvZE
namespace Go.Ev
open Go Go.RowKit
noncomputable section
section
variable {P : Program} {w0 : Base} {w : World} {r : Ren} {tail : List Frame} {s' : S}

theorem code_ok {fn n : Nat} {tm : T V} {h : H} {tmps : Array Value} {c : Code} {td : List AI} {k : List Item} {dfs : List AD} {ds : List Deferred} {dk : Bool} {rnd rn : Option Nat} {rest : List AF} {ca : List Frame}
    (hr : HR P w0 r h w) (tr : TR r tm n tmps) (it : IRs r td k) (hd : ADRs r dfs ds) (hrn : optAt r rnd rn) (hre : FHs P w0 r rest ca)
    (hk : astep P ⟨⟨fn, n, tm, .code c :: td, dfs, false, dk, rnd⟩, rest, h⟩ = some s') :
    To P w0.w tail (fr fn tmps (.code c :: k) ds (kdOf dk) rn) (ca ++ tail) w s' := by
  cases c with
  | ret =>
    cases rnd with
    | none =>
      obtain rfl : rn = none := hrn
      have hk : some (⟨⟨fn, n, tm, .code .ret :: td, dfs, true, dk, none⟩, rest, h⟩ : S) = some s' := hk
      cases hk
      exact ⟨w0.pend, r, _, _, _, .one st_ret, hr, .plain ⟨rfl, hd, rfl, rfl, rfl⟩ tr (.cons _ _ _ _ (.code _) it), ca, rfl, hre⟩
    | some l =>
      have hk : astep.leave P dk l (some .ret) rest h = some s' := hk
      refine leave_ok hr hrn hre hk ?_
      rintro rfl c lp x y rfl h0
      exact st_leaveRet h0
  | skip =>
    have hk : some (⟨⟨fn, n, tm, td, dfs, false, dk, rnd⟩, rest, h⟩ : S) = some s' := hk
    cases hk
    exact to_run st_skip hr tr it hd hrn hre
  | label l =>
    have hk : some (⟨⟨fn, n, tm, td, dfs, false, dk, rnd⟩, rest, h⟩ : S) = some s' := hk
    cases hk
    exact to_run st_label hr tr it hd hrn hre
  | seq a b =>
    have hk : some (⟨⟨fn, n, tm, .code a :: .code b :: td, dfs, false, dk, rnd⟩, rest, h⟩ : S) = some s' := hk
    cases hk
    exact to_run st_seq hr tr (.cons _ _ _ _ (.code a) (.cons _ _ _ _ (.code b) it)) hd hrn hre
  | cond x a b =>
    dsimp only [astep] at hk
    have her : ER r tm.get (Act.eval ⟨tmps, []⟩) := ER.of hr tr.at_
    split at hk
    · rename_i hx
      cases hk
      exact to_run (st_cond (t := true) (her _ _ hx).bool_inv) hr tr (.cons _ _ _ _ (.code a) it) hd hrn hre
    · rename_i hx
      cases hk
      exact to_run (st_cond (t := false) (her _ _ hx).bool_inv) hr tr (.cons _ _ _ _ (.code b) it) hd hrn hre
    · cases hk
  | block id b =>
    have hk : some (⟨⟨fn, n, tm, .code b :: .inBlock id :: td, dfs, false, dk, rnd⟩, rest, h⟩ : S) = some s' := hk
    cases hk
    exact to_run st_block hr tr (.cons _ _ _ _ (.code b) (.cons _ _ _ _ (.inBlock id) it)) hd hrn hre
  | loop b =>
    have hk : some (⟨⟨fn, n, tm, .code b :: .inLoop b :: td, dfs, false, dk, rnd⟩, rest, h⟩ : S) = some s' := hk
    cases hk
    exact to_run st_loop hr tr (.cons _ _ _ _ (.code b) (.cons _ _ _ _ (.inLoop b) it)) hd hrn hre
  | scope b =>
    have hk : some (⟨⟨fn, n, tm, .code b :: .inScope b :: td, dfs, false, dk, rnd⟩, rest, h⟩ : S) = some s' := hk
    cases hk
    exact to_run st_scope hr tr (.cons _ _ _ _ (.code b) (.cons _ _ _ _ (.inScope b) it)) hd hrn hre
  | exit id =>
    dsimp only [astep] at hk
    obtain ⟨h1, h2⟩ := exitA_ok (id := id) it
    split at hk
    · rename_i td' he
      cases hk
      obtain ⟨k', hk', it'⟩ := h1 td' he
      exact to_run (st_exit hk') hr tr it' hd hrn hre
    · rename_i he
      split at hk
      · cases hk
      · refine leave_ok hr hrn hre hk ?_
        rintro rfl c lp x y rfl h0
        exact st_leaveExit h0 (h2 he)
  | goto l =>
    dsimp only [astep] at hk
    obtain ⟨h1, h2⟩ := gotoA_ok (l := l) it
    split at hk
    · rename_i td' he
      cases hk
      obtain ⟨k', hk', it'⟩ := h1 td' he
      exact to_run (st_goto hk') hr tr it' hd hrn hre
    · rename_i he
      split at hk
      · cases hk
      · refine leave_ok hr hrn hre hk ?_
        rintro rfl c lp x y rfl h0
        exact st_leaveGoto h0 (h2 he)
  | region id ops draw =>
    cases draw with
    | false =>
      have hk : some (⟨⟨fn, n, tm, .reg ops ops.toList :: td, dfs, false, dk, rnd⟩, rest, h⟩ : S) = some s' := hk
      cases hk
      exact to_run st_region hr tr (.cons _ _ _ _ (.reg _ _ _ (regL_all ops)) it) hd hrn hre
    | true =>
      dsimp only [astep] at hk
      split at hk
      · rename_i plan hp
        cases hk
        exact drawn_begin hr tr it hd hrn hre hp
      · cases hk
  | rangeFunc f params a b =>
    cases rnd with
    | some l => have hk : none = some s' := hk; cases hk
    | none =>
      obtain rfl : rn = none := hrn
      dsimp only [astep] at hk
      split at hk
      · rename_i g first cap hf
        exact rf_ok hr tr it hd hre hf hk
      · cases hk
  | refuse x => have hk : none = some s' := hk; cases hk
theorem reg_ok {fn n : Nat} {tm : T V} {h : H} {tmps : Array Value} {ops : Array Oper} {l : List Oper} {li : List Nat} {td : List AI} {k : List Item} {dfs : List AD} {ds : List Deferred} {dk : Bool} {rnd rn : Option Nat} {rest : List AF} {ca : List Frame}
    (hr : HR P w0 r h w) (tr : TR r tm n tmps) (hreg : RegL ops li l) (it : IRs r td k) (hd : ADRs r dfs ds) (hrn : optAt r rnd rn) (hre : FHs P w0 r rest ca)
    (hk : astep P ⟨⟨fn, n, tm, .reg ops l :: td, dfs, false, dk, rnd⟩, rest, h⟩ = some s') :
    To P w0.w tail (fr fn tmps (.inRegion ops li :: k) ds (kdOf dk) rn) (ca ++ tail) w s' := by
  cases hreg with
  | nil =>
    have hk : some (⟨⟨fn, n, tm, td, dfs, false, dk, rnd⟩, rest, h⟩ : S) = some s' := hk
    cases hk
    exact to_run st_regEnd hr tr it hd hrn hre
  | cons i o li l ho hreg =>
    dsimp only [astep] at hk
    split at hk
    · cases hk
    · rename_i hw
      have hw := wanted_ok (tr.lr (o := o) (ops := ops)) hw
      obtain ⟨tm', hk2, htm⟩ := putK_ok hk
      cases hk2
      exact to_run (st_opSkip ho hw) hr (tr.putA (.tup [] [] .nil) htm) (.cons _ _ _ _ (.reg _ _ _ hreg) it) hd hrn hre
    · rename_i hw
      have hw := wanted_ok (tr.lr (o := o) (ops := ops)) hw
      split at hk
      · rename_i hread
        split at hk
        · cases hk
        · rename_i v hv
          rw [nfK_eq] at hk
          obtain ⟨x, hvr, hrun⟩ := rd_step hr (tr.lr (o := o) (ops := ops)) hv
          obtain ⟨tm', hk2, htm⟩ := putK_ok hk
          cases hk2
          exact to_run (st_opVal ho hw (.inr (reads_noDefer hread)) hrun) hr (tr.putA hvr htm) (.cons _ _ _ _ (.reg _ _ _ hreg) it) hd hrn hre
      · exact reg_act hr tr ho hreg it hd hre hw hk hrn
theorem dreg_ok {fn n : Nat} {tm : T V} {h : H} {tmps : Array Value} {ops : Array Oper} {plan : List PS} {ex pot : List Nat} {L : Nat → Bool} {li : List Nat} {td : List AI} {k : List Item} {dfs : List AD} {ds : List Deferred} {dk : Bool} {rnd rn : Option Nat} {rest : List AF} {ca : List Frame}
    (hr : HR P w0 r h w) (dr : DR P w0 rest.length r ops plan ex pot L tm n tmps li) (st : ∀ i ∈ pot, ∀ o, ops[i]? = some o → reads P o = true → Stab P ops tm h o) (dl : ∀ i ∈ pot, ∀ o d, ops[i]? = some o → o.dst = some d → d < n)
    (it : IRs r td k) (hd : ADRs r dfs ds) (hrn : optAt r rnd rn) (hre : FHs P w0 r rest ca)
    (hk : astep P ⟨⟨fn, n, tm, .dreg ops plan :: td, dfs, false, dk, rnd⟩, rest, h⟩ = some s') :
    To P w0.w tail (fr fn tmps (.inRegion ops li :: k) ds (kdOf dk) rn) (ca ++ tail) w s' := by
  cases plan with
  | nil =>
    have hk : some (⟨⟨fn, n, tm, td, dfs, false, dk, rnd⟩, rest, h⟩ : S) = some s' := hk
    cases hk
    have hp := dr.plan
    cases hp with
    | nil _ _ hall =>
      obtain ⟨tmps', pd, r', w', hs, hr', hle, hpd, tr⟩ := drain_end (fn := fn) (k := k) (ds := ds) (kd := kdOf dk) (rn := rn) (cs := ca ++ tail) hall st dl li L tmps w0 r w hr dr
      exact .pre hs (to_run (w0 := ⟨w0.w, pd⟩) st_regEnd hr' tr (it.mono hle) (hd.mono hle) (hrn.mono hle) (hre.pd hle fun b ao e j hb he => hpd b ao e j hb (by omega)))
  | cons p plan =>
    cases p with
    | rd o rc =>
      dsimp only [astep] at hk
      split at hk
      · cases hk
      · obtain ⟨tm', hk2, htm⟩ := putK_ok hk
        split at hk2
        · rename_i hrec
          cases hk2
          exact drawn_rd hr dr dl it hd hrn hre htm hrec
        · cases hk2
      · split at hk
        · cases hk
        · rw [nfK_eq] at hk
          obtain ⟨tm', hk2, htm⟩ := putK_ok hk
          split at hk2
          · rename_i hrec
            cases hk2
            exact drawn_rd hr dr dl it hd hrn hre htm hrec
          · cases hk2
    | al o rc =>
      have hp := dr.plan
      cases hp with
      | al i _ _ _ _ _ ho hn hla hl hs hf hlt hrc hp =>
      dsimp only [astep] at hk
      split at hk
      · cases hk
      · rename_i hw
        obtain ⟨tm', hk2, htm⟩ := putK_ok hk
        split at hk2
        · rename_i hrec
          cases hk2
          refine drawn_al rfl (fun _ _ h => h) hr dr dl it hd hrn hre ho hn hla hl hs hf hlt hrc hp ?_ htm hrec
          have hsame : ∀ t, t ∈ o.looksAt ops → tm'.get t = tm.get t := fun t ht => by
            rcases htm with ⟨_, rfl⟩ | ⟨d, hd', _, rfl⟩
            · rfl
            · rw [T.get_set, if_neg (fun (e : t = d) => hs d hd' (e ▸ ht))]
          refine .inl ⟨by rw [wantedA_congr hsame]; exact hw, fun d hdd => ?_⟩
          rcases htm with ⟨hdn, _⟩ | ⟨d', hd', _, rfl⟩
          · rw [hdn] at hdd; cases hdd
          · rw [hd'] at hdd; cases hdd
            rw [T.get_set, if_pos rfl]
        · cases hk2
      · rename_i hw
        rw [actK_congr (ev_same (ops := ops) (tm := tm))] at hk
        obtain ⟨ao, g, hk1, hout⟩ := lays_ok hla hk
        obtain ⟨tm', hk2, htm⟩ := putK_ok hk1
        split at hk2
        · rename_i hrec
          cases hk2
          refine drawn_al (w1 := ⟨w0.w, fun x => if x = h.nx then some (ao, rest.length, i) else w0.pend x⟩) rfl (fun b e hb => ?_) (hr.ahead ao (rest.length, i)) dr dl it hd hrn hre ho hn hla hl hs hf hlt hrc hp ?_ htm hrec
          · have : b ≠ h.nx := fun e' => by have := (hr.keep b e hb).2.2; omega
            show (if b = h.nx then _ else w0.pend b) = _
            rw [if_neg this]; exact hb
          have hsame : ∀ t, t ∈ o.looksAt ops → tm'.get t = tm.get t := fun t ht => by
            rcases htm with ⟨_, rfl⟩ | ⟨d, hd', _, rfl⟩
            · rfl
            · rw [T.get_set, if_neg (fun (e : t = d) => hs d hd' (e ▸ ht))]
          refine .inr ⟨by rw [wantedA_congr hsame]; exact hw, h.nx, ao, g, by simp, fun d hdd => ?_, fun r' w' ρ hρ => hout r' w' ρ (by rw [seen_congr hsame] at hρ; exact hρ)⟩
          rcases htm with ⟨hdn, _⟩ | ⟨d', hd', _, rfl⟩
          · rw [hdn] at hdd; cases hdd
          · rw [hd'] at hdd; cases hdd
            rw [T.get_set, if_pos rfl]
        · cases hk2
    | act o rc =>
      have hp := dr.plan
      cases hp with
      | act i _ rcI _ _ _ _ ho hn h1 h2 h3 h4 hrc hp =>
      obtain ⟨tmps', li', L', pd, r', w', hs, hr', hle, hpd, hh⟩ := drain_act (fn := fn) (k := k) (ds := ds) (kd := kdOf dk) (rn := rn) (cs := ca ++ tail) ho hn h1 h2 h3 h4 hrc hp st dl li L tmps w0 r w hr dr
      refine .pre hs ?_
      have it := it.mono hle
      have hd := hd.mono hle
      have hrn := hrn.mono hle
      have hre : FHs P ⟨w0.w, pd⟩ r' rest ca := hre.pd hle fun b ao e j hb he => hpd b ao e j hb (by omega)
      dsimp only [astep] at hk
      split at hk
      · cases hk
      · rename_i hw
        have hw := wanted_ok hh.lr hw
        obtain ⟨tm', hk2, htm⟩ := putK_ok hk
        split at hk2
        · rename_i hrec
          cases hk2
          exact drawn_skip (w0 := ⟨w0.w, pd⟩) hr' hh it hd hrn hre hw htm hrec
        · cases hk2
      · rename_i hw
        have hw := wanted_ok hh.lr hw
        exact dreg_act (w0 := ⟨w0.w, pd⟩) hr' hh it hd hre hw hk hrn
theorem loop_ok {fn n l : Nat} {tm : T V} {h : H} {tmps : Array Value} {td : List AI} {k : List Item} {c : Nat} {dfs : List AD} {ds : List Deferred} {dk : Bool} {rnd rn : Option Nat} {rest : List AF} {ca : List Frame}
    (hr : HR P w0 r h w) (tr : TR r tm n tmps) (hc : r.at_ l = some c) (it : IRs r td k) (hd : ADRs r dfs ds) (hrn : optAt r rnd rn) (hre : FHs P w0 r rest ca)
    (hk : astep P ⟨⟨fn, n, tm, .endRF l :: td, dfs, false, dk, rnd⟩, rest, h⟩ = some s') :
    To P w0.w tail (fr fn tmps (.endRangeFunc c :: k) ds (kdOf dk) rn) (ca ++ tail) w s' := by
  dsimp only [astep] at hk
  split at hk
  · rename_i st pe fn' n' tm' ps a b d hb
    obtain ⟨tmps', d', h0, ht, hd'⟩ := hr.loop hb hc
    split at hk
    · cases hk
    · rename_i hst
      have hstep := st_endRF (P := P) (fn := fn) (tmps := tmps) (k := k) (ds := ds) (kd := kdOf dk) (rn := rn) (cs := ca ++ tail) h0 (fun e => hst e)
      have hr2 := hr.setLoop (st' := .exhausted) (pe' := pe) hb hc h0 ht hd'
      rw [T.setK_eq] at hk
      cases pe with
      | none => cases hk; exact to_run hstep hr2 tr it hd hrn hre
      | some j => cases hk; exact to_run hstep hr2 tr (.cons _ _ _ _ (.code j) it) hd hrn hre
  · cases hk
theorem begin_ok {fn n : Nat} {tm : T V} {h : H} {tmps : Array Value} {td : List AI} {k : List Item} {dfs : List AD} {ds : List Deferred} {dk : Bool} {rnd rn : Option Nat} {rest : List AF} {ca : List Frame}
    (hr : HR P w0 r h w) (tr : TR r tm n tmps) (it : IRs r td k) (hd : ADRs r dfs ds) (hrn : optAt r rnd rn) (hre : FHs P w0 r rest ca)
    (hk : astep P ⟨⟨fn, n, tm, .beginRound :: td, dfs, false, dk, rnd⟩, rest, h⟩ = some s') :
    To P w0.w tail (fr fn tmps (.beginRound :: k) ds (kdOf dk) rn) (ca ++ tail) w s' := by
  dsimp only [astep] at hk
  split at hk
  · cases hk
  · rename_i l
    obtain ⟨c, hc, rfl⟩ := id hrn
    split at hk
    · rename_i pe fn' n' tm' ps a b d hb
      obtain ⟨tmps', d', h0, ht, hd'⟩ := hr.loop hb hc
      rw [T.setK_eq] at hk
      cases hk
      exact to_run (st_beginRound h0 rfl) (hr.setLoop hb hc h0 ht hd') tr it hd hrn hre
    · cases hk
/-- One step of the step machine: the world's machine goes with it. -/
theorem astep_ok {s : S} {f : Frame} {cs : List Frame} (hs : Rep P w0 tail s f cs w r) (hk : astep P s = some s') : To P w0.w tail f cs w s' := by
  obtain ⟨⟨fn, n, tm, todo, dfs, ret, dk, rnd⟩, rest, h⟩ := s
  obtain ⟨hr, htop, ca, rfl, hre⟩ := hs
  dsimp only at hr htop hre
  cases ret with
  | true =>
    obtain ⟨tmps, k, ds, rn, rfl, hd, hrn, tr, it⟩ := htop.ret_of rfl
    dsimp only at hd hrn tr it ⊢
    cases dfs with
    | nil =>
      obtain rfl : ds = [] := by cases hd; rfl
      dsimp only [astep] at hk
      split at hk
      · cases hk
      · split at hk
        · cases hk
        · rename_i v hv
          exact leave_end hr tr hre hv hk
    | cons d dfs =>
      cases d with
      | call g args => exact defer_call hr tr it hd hrn hre hk
      | mark b =>
        dsimp only [astep] at hk
        split at hk
        · rename_i hb
          rw [T.setK_eq] at hk
          cases hk
          exact defer_mark hr tr it hd hrn hre hb
        · cases hk
  | false =>
    by_cases hdr : ∃ ops plan td, todo = .dreg ops plan :: td
    · obtain ⟨ops, plan, td, rfl⟩ := hdr
      obtain ⟨ffn, ftmps, ftodo, fds, fmode, fkind, frn⟩ := f
      cases htop with
      | plain fb tr it =>
        dsimp only at it
        cases it with
        | cons _ b _ y hi hk' => cases hi
      | drawn fb hrun ops' plan' td' ex pot L l k ha hf dr st dl it =>
        obtain ⟨b1, b2, b3, b4, b5⟩ := fb
        dsimp only at b1 b2 b3 b4 b5 dr ha hf
        cases ha
        subst b1 b3 b4 hf
        exact dreg_ok hr dr st dl it b2 b5 hre hk
    · obtain ⟨tmps, k, ds, rn, rfl, hd, hrn, tr, it⟩ := htop.run_of rfl (fun ops plan td e => hdr ⟨ops, plan, td, e⟩)
      dsimp only at hd hrn tr it ⊢
      cases it with
      | nil =>
        cases rnd with
        | none =>
          obtain rfl : rn = none := hrn
          have hk : some (⟨⟨fn, n, tm, [], dfs, true, dk, none⟩, rest, h⟩ : S) = some s' := hk
          cases hk
          exact ⟨w0.pend, r, _, _, _, .one st_end, hr, .plain ⟨rfl, hd, rfl, rfl, rfl⟩ tr .nil, ca, rfl, hre⟩
        | some l =>
          have hk : astep.leave P dk l none rest h = some s' := hk
          refine leave_ok hr hrn hre hk ?_
          rintro rfl c lp x y rfl h0
          exact st_leaveEnd h0
      | cons a b td y hi it =>
        cases hi with
        | code c => exact code_ok hr tr it hd hrn hre hk
        | inBlock id =>
          have hk : some (⟨⟨fn, n, tm, td, dfs, false, dk, rnd⟩, rest, h⟩ : S) = some s' := hk
          cases hk
          exact to_run st_inBlock hr tr it hd hrn hre
        | inLoop b =>
          have hk : some (⟨⟨fn, n, tm, .code b :: .inLoop b :: td, dfs, false, dk, rnd⟩, rest, h⟩ : S) = some s' := hk
          cases hk
          exact to_run st_inLoop hr tr (.cons _ _ _ _ (.code b) (.cons _ _ _ _ (.inLoop b) it)) hd hrn hre
        | inScope b =>
          have hk : some (⟨⟨fn, n, tm, td, dfs, false, dk, rnd⟩, rest, h⟩ : S) = some s' := hk
          cases hk
          exact to_run st_inScope hr tr it hd hrn hre
        | reg ops l li hreg => exact reg_ok hr tr hreg it hd hrn hre hk
        | inRF l c hc => have hk : none = some s' := hk; cases hk
        | endRF l c hc => exact loop_ok hr tr hc it hd hrn hre hk
        | beginRound => exact begin_ok hr tr it hd hrn hre hk
theorem To.step {W : World} {f : Frame} {cs : List Frame} {s s2 : S} (ht : To P W tail f cs w s) (hk : astep P s = some s2) : To P W tail f cs w s2 := by
  obtain ⟨pd, r', f', cs', w', h1, h2⟩ := ht
  exact .pre h1 (astep_ok h2 hk)
/-- Many steps. -/
theorem arun_ok {W : World} {f : Frame} {cs : List Frame} : ∀ (k : Nat) {s s2 : S}, To P W tail f cs w s → arun P k s = some s2 → To P W tail f cs w s2
  | 0, s, s2, ht, hk => by
    have hk : some s = some s2 := hk
    cases hk; exact ht
  | k + 1, s, s2, ht, hk => by
    have hk : (match astep P s with | some s => arun P k s | none => none) = some s2 := hk
    split at hk
    · rename_i s1 h1
      exact arun_ok k (ht.step h1) hk
    · cases hk
end
end
end Go.Ev
