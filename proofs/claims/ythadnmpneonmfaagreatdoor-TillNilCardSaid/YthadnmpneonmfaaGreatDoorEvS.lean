/- The step machine: every operation that acts. -/
import Derived.Test.YthadnmpneonmfaaGreatDoorEvR
import Derived.Test.YthadnmpneonmfaaGreatDoorEvO
namespace Go.Ev
open Go Go.RowKit
noncomputable section
section ops
variable {P : Program} {w0 : Base} {w : World} {r : Ren} {h : H} {tm : Nat → Option V} {ρ : Operand → Value}
variable {res : S}

/-- A deferred call. -/
inductive ADR (r : Ren) : AD → Deferred → Prop
  | call (f : Nat) (l : List V) (cap args : List Value) (h : VRs r l (args ++ cap)) : ADR r (.call f l) { target := .fn (.func f) ⟨cap⟩, args := ⟨args⟩ }
  | mark (b c : Nat) (h : r.at_ b = some c) : ADR r (.mark b) { target := .collected c, args := #[] }
theorem ADR.mono {r s : Ren} (hl : r.le s) {d : AD} {D : Deferred} (h : ADR r d D) : ADR s d D := by
  cases h with
  | call f l cap args h => exact .call f l cap args (h.mono hl)
  | mark b c h => exact .mark b c (hl b c h).1
/-- An operation's end: a value, or none. -/
def Fin (s : Result Next) (x : Value) (w' : World) : Prop := s = .ok (.value x) w' ∨ (s = .ok .skip w' ∧ x = undef)
inductive ActOut (P : Program) (w0 : Base) (r : Ren) (h : H) (w : World) (s : Sem Next) (res : S) (kv : V → H → Option S) (kc : Nat → List V → Option S) (kr : Nat → List V → Option S) (kd : AD → Option S) (kn : Option S) : Prop
  | val (v : V) (h' : H) (r' : Ren) (x : Value) (w' : World) (hr : HR P w0 r' h' w') (hl : r.le r') (hv : VR r' v x) (hs : Fin (s.run P w) x w') (hk : kv v h' = some res)
  | call (f : Nat) (l : List V) (xs : List Value) (hv : VRs r l xs) (hs : s.run P w = (callFunc f ⟨xs⟩).run P w) (hk : kc f l = some res)
  | round (b c : Nat) (l : List V) (xs : List Value) (hc : r.at_ b = some c) (hv : VRs r l xs) (hs : s.run P w = (Instr.yield c ⟨xs⟩).run P w) (hk : kr b l = some res)
  | defer (d : AD) (D : Deferred) (hd : ADR r d D) (hs : s.run P w = .ok (.defer D) w) (hk : kd d = some res)
  | recover (hs : s.run P w = .ok .recover w) (hk : kn = some res)
variable {kv : V → H → Option S} {kc kr : Nat → List V → Option S} {kd : AD → Option S} {kn : Option S}
theorem ValOut.act {s : Sem Value} {t : Sem Next} (hv : ValOut P w0 r w s kv res) (ht : ∀ x w', s.run P w = .ok x w' → t.run P w = .ok (.value x) w') : ActOut P w0 r h w t res kv kc kr kd kn := by
  obtain ⟨v, h', r', x, w', h1, h2, h3, h4, h5⟩ := hv
  exact .val v h' r' x w' h1 h2 h3 (.inl (ht x w' h4)) h5
theorem map_list (x : Array Operand) : x.map ρ = ⟨x.toList.map ρ⟩ := by apply Array.ext'; simp
theorem map_parts (x : Array (Nat × Operand)) : (x.map fun p => (p.1, ρ p.2)) = ⟨x.toList.map fun p => (p.1, ρ p.2)⟩ := by apply Array.ext'; simp
theorem methI_ok {t f : Nat} {name : String} {dr : Option Nat} (hm : methI P t name = some (f, dr)) :
    (dr = none ∧ ∀ v : Value, (method (P.types.size + Made.depth) t v name).run P w = .ok (f, v) w) ∨
    ∃ e, dr = some e ∧ ∀ (a : Addr) (x : Value), (loadVar e a).run P w = .ok x w → (method (P.types.size + Made.depth) t (.pointer (some a)) name).run P w = .ok (f, x) w := by
  have hfuel : ∃ n, P.types.size + Made.depth = n + 1 := ⟨P.types.size + Made.depth - 1, by have : 0 < Made.depth := by decide
                                                                                            omega⟩
  obtain ⟨n, hn⟩ := hfuel
  rw [hn]
  unfold methI at hm
  split at hm
  · cases hm
  rename_i i hi
  split at hm
  · cases hm
  rename_i m hmf
  split at hm
  · rename_i f' pr hp hf
    have hpath : m.path.toList = [] := by simpa using hp
    have hpath' : m.path = #[] := by apply Array.ext'; simpa using hpath
    split at hm
    · rename_i e hu
      cases hm
      refine .inl ⟨rfl, fun v => ?_⟩
      simp [method, typeInfo, hi, hmf, hpath', follow, hf, receiverAt, run_underlying hu, Place.get, Result.andThen]
    · rename_i e hu
      cases hm
      refine .inr ⟨e, rfl, fun a x hx => ?_⟩
      have hw : ∀ xt nm, (Builtin.ssaWrapNilChk_ #[xt] xt #[.pointer (some a), strVal "", strVal nm]).run P w = .ok (.pointer (some a)) w := fun _ _ => rfl
      simp [method, typeInfo, hi, hmf, hpath', follow, hf, receiverAt, run_underlying hu, Place.get, Result.andThen, hw, asAddr, hx]
    · rename_i d hnd hu
      cases hm
      refine .inl ⟨rfl, fun v => ?_⟩
      cases d <;> first | exact absurd rfl (hnd _) | simp [method, typeInfo, hi, hmf, hpath', follow, hf, receiverAt, run_underlying hu, Place.get, Result.andThen]
    · cases hm
  · cases hm
theorem act_ok (hr : HR P w0 r h w) (he : ER r tm ρ) {o : Oper} (hk : actK P tm h o none kv kc kr kd kn = some res) : ActOut P w0 r h w (execOp ρ o) res kv kc kr kd kn := by
  obtain ⟨dst, op, type, pos, after, guard⟩ := o
  unfold actK at hk
  cases op <;> dsimp only at hk <;> try (cases hk; done)
  case assign x =>
    split at hk
    · rename_i v hv
      exact .val v h r _ w hr r.le_refl (he _ _ hv) (.inl rfl) hk
    · cases hk
  case store t a x =>
    split at hk
    · rename_i b off ha
      obtain ⟨c, hc, hcat⟩ := (he _ _ ha).ptr_inv
      split at hk
      · rename_i v hv
        split at hk
        · cases hk
        rename_i vc hvc
        split at hk
        · rename_i g n ht
          split at hk
          · rename_i hlen
            rw [nfsK_eq] at hk
            obtain ⟨h', w', h1, h2, h3⟩ := store_ok hr hcat (he _ _ hv) hvc ht (Nat.eq_of_beq_eq_true hlen) hk
            refine .val _ h' r undef w' h1 r.le_refl (.tup [] [] .nil) (.inr ⟨?_, rfl⟩) h3
            simp [execOp, hc, h2, Result.andThen]
          · cases hk
        · cases hk
      · cases hk
    · cases hk
  case alloc t =>
    split at hk
    · rename_i z hz
      rw [nfsK_eq] at hk
      exact (alloc_ok hr hz hk).act fun x w' hx => exec_v hx
    · cases hk
  case box t x =>
    split at hk
    · rename_i v hv
      split at hk
      · cases hk
      rename_i vc hvc
      rw [nfsK_eq] at hk
      exact (box_ok hr (he _ _ hv) hvc hk).act fun x w' hx => exec_v hx
    · cases hk
  case buildSlice t len parts =>
    split at hk
    · rename_i elem esz g hs
      split at hk
      · rename_i ps hps
        split at hk
        · cases hk
        · split at hk
          · rename_i z hz
            split at hk
            · cases hk
            · rename_i hzl
              split at hk
              · rename_i hsm
                split at hk
                · rename_i l hl
                  rw [nfsK_eq] at hk
                  refine ValOut.act (buildSlice_ok (kv := kv) hr hs (evParts_ok he hps) (by omega) hz (Nat.eq_of_beq_eq_true hzl) (Nat.le_of_ble_eq_true hsm) hl (by simpa [natK_eq] using hk)) fun x w' hx => ?_
                  refine exec_v ?_
                  rw [← hx]; congr 2
                  exact map_parts parts
                · cases hk
              · cases hk
          · cases hk
      · cases hk
    · cases hk
  case makeSlice t l c =>
    split at hk
    · rename_i kl l' hl
      split at hk
      · rename_i kc' c' hc
        split at hk
        · rename_i elem esz g hs
          split at hk
          · cases hk
          · split at hk
            · rename_i z hz
              split at hk
              · rename_i by_ hby
                split at hk
                · cases hk
                · rename_i hzl
                  split at hk
                  · cases hk
                  · rename_i hlc
                    split at hk
                    · cases hk
                    · rename_i hsm
                      rw [nfsK_eq, natK_eq, natK_eq, natK_eq] at hk
                      refine ValOut.act (makeSlice_ok (kv := kv) (kl := kl) (kc := kc') hr hs (by omega) hz hby (Nat.eq_of_beq_eq_true hzl) (Nat.le_of_ble_eq_true hlc) (small_spec hsm) hk) fun x w' hx => exec_v ?_
                      rw [(he _ _ hl).int_inv, (he _ _ hc).int_inv]
                      exact hx
              · cases hk
            · cases hk
        · cases hk
      · cases hk
    · cases hk
  case makeMap t rs =>
    have hnew : ∀ {kv' : V → H → Option S}, newObjK h (.map [] 0) (fun b h => kv' (.map b) h) = some res → ∃ h' r', HR P w0 r' h' (w.alloc (.map #[] 0)) ∧ r.le r' ∧ r'.at_ h.nx = some w.heap.size ∧ kv' (.map h.nx) h' = some res := fun hk => by
      obtain ⟨h', r', h1, h2, h3, h4⟩ := newObjK_ok (o := .map #[] 0) (ao := .map [] 0) hr ⟨#[], rfl, .nil⟩ hk
      exact ⟨h', r', h1, h2, h3, h4⟩
    split at hk
    · obtain ⟨h', r', h1, h2, h3, h4⟩ := hnew hk
      refine .val _ h' r' _ _ h1 h2 (.map _ _ h3) (.inl ?_) h4
      exact exec_v (by simp [Instr.makeMap, Result.andThen])
    · rename_i x
      split at hk
      · rename_i k n kt et hx hu
        obtain ⟨h', r', h1, h2, h3, h4⟩ := hnew hk
        refine .val _ h' r' _ _ h1 h2 (.map _ _ h3) (.inl ?_) h4
        refine exec_v ?_
        simp only [Option.map_some, (he _ _ hx).int_inv]
        simp [Instr.makeMap, run_underlying hu, asInt, asIntOf, Result.andThen]
      · cases hk
  case mapUpdate t m key x =>
    split at hk
    · rename_i kt et hu
      split at hk
      · rename_i b hm
        split at hk
        · rename_i ky hky
          split at hk
          · cases hk
          rename_i hpk
          split at hk
          · rename_i v hv
            split at hk
            · rename_i es clock hb
              split at hk
              · rename_i i fv hf
                rw [nfK_eq, T.setK_eq] at hk
                obtain ⟨h', w', h1, h2, rfl⟩ := mapUpdate_ok hr hu (he _ _ hm) (he _ _ hky) (he _ _ hv) hpk hb hf
                exact .val _ _ r undef w' h1 r.le_refl (.tup [] [] .nil) (.inr ⟨by simp [execOp, h2, Result.andThen], rfl⟩) hk
              · rename_i hf
                rw [nfK_eq, natK_eq, T.setK_eq] at hk
                obtain ⟨h', w', h1, h2, rfl⟩ := mapUpdate_ok hr hu (he _ _ hm) (he _ _ hky) (he _ _ hv) hpk hb hf
                exact .val _ _ r undef w' h1 r.le_refl (.tup [] [] .nil) (.inr ⟨by simp [execOp, h2, Result.andThen], rfl⟩) hk
              · cases hk
            · cases hk
          · cases hk
        · cases hk
      · cases hk
    · cases hk
  case insert t m key x =>
    split at hk
    · rename_i kt et hu
      split at hk
      · rename_i b hm
        split at hk
        · rename_i ky hky
          split at hk
          · cases hk
          rename_i hpk
          split at hk
          · rename_i v hv
            split at hk
            · rename_i es clock hb
              split at hk
              · rename_i i fv hf
                rw [nfK_eq, T.setK_eq] at hk
                obtain ⟨h', w', h1, h2, rfl⟩ := mapUpdate_ok hr hu (he _ _ hm) (he _ _ hky) (he _ _ hv) hpk hb hf
                exact .val _ _ r undef w' h1 r.le_refl (.tup [] [] .nil) (.inr ⟨by simp [execOp, h2, Result.andThen], rfl⟩) hk
              · rename_i hf
                rw [nfK_eq, natK_eq, T.setK_eq] at hk
                obtain ⟨h', w', h1, h2, rfl⟩ := mapUpdate_ok hr hu (he _ _ hm) (he _ _ hky) (he _ _ hv) hpk hb hf
                exact .val _ _ r undef w' h1 r.le_refl (.tup [] [] .nil) (.inr ⟨by simp [execOp, h2, Result.andThen], rfl⟩) hk
              · cases hk
            · cases hk
          · cases hk
        · cases hk
      · cases hk
    · cases hk
  case range t x =>
    split at hk
    · rename_i k e hu
      split at hk
      · rename_i hx
        exact (range_nil_ok hr hu (he _ _ hx) hk).act fun x w' hx => exec_v hx
      · rename_i m hx
        split at hk
        · rename_i es clock hb
          exact (range_map_ok hr hu (he _ _ hx) hb hk).act fun x w' hx => exec_v hx
        · cases hk
      · cases hk
    · rename_i hu
      split at hk
      · rename_i s hx
        exact (range_str_ok hr hu (he _ _ hx) hk).act fun x w' hx => exec_v hx
      · cases hk
    · cases hk
  case next it isStr =>
    have hval : ∀ (v : V) (h' : H) (x : Value) (w' : World), HR P w0 r h' w' → VR r v x → (Instr.next (ρ it) isStr type).run P w = .ok x w' → kv v h' = some res →
        ActOut P w0 r h w (execOp ρ ⟨dst, .next it isStr, type, pos, after, guard⟩) res kv kc kr kd kn := fun v h' x w' h1 h2 h3 h4 => .val v h' r x w' h1 r.le_refl h2 (.inl (exec_v h3)) h4
    have tup1 : VR r (.tup [.bool false]) (.tuple #[.bool false]) := .tup _ [_] (.cons _ _ _ _ (.bool false) .nil)
    have tup3 : ∀ {a b : V} {x y : Value}, VR r a x → VR r b y → VR r (.tup [.bool true, a, b]) (.tuple #[.bool true, x, y]) := fun ha hb => .tup _ [_, _, _] (.cons _ _ _ _ (.bool true) (.cons _ _ _ _ ha (.cons _ _ _ _ hb .nil)))
    split at hk
    · rename_i rr hit
      have hy := he _ _ hit
      split at hk
      · rename_i s ps hb
        split at hk
        · cases hk
        · split at hk
          · rename_i hd
            exact hval _ _ _ _ hr tup1 (next_str_end hr hy hb hd) hk
          · rename_i c0 l hd
            split at hk
            · rename_i hlt
              rw [natK_eq, T.setK_eq, nfK_eq] at hk
              obtain ⟨w', h1, h2⟩ := next_str_ok (ty := type) hr hy hb hd (Nat.le_of_ble_eq_true hlt) rfl
              exact hval _ _ _ _ h1 (tup3 (.int _ _) (.int _ _)) h2 hk
            · cases hk
      · rename_i since seen last hb
        split at hk
        · exact hval _ _ _ _ hr tup1 (next_nil hr hy hb) hk
        · cases hk
      · rename_i m since seen last hb
        split at hk
        · cases hk
        · split at hk
          · rename_i es clock hbm
            split at hk
            · cases hk
            rename_i hg
            split at hk
            · rename_i hf
              exact hval _ _ _ _ hr tup1 (next_end_ok hr hy hb hbm hg hf) hk
            · rename_i e hf
              split at hk
              · rename_i hlt
                rw [nfK_eq, nfK_eq, T.setK_eq] at hk
                obtain ⟨x, u, w', h1, h2, h3, h4⟩ := next_one_ok (ty := type) (key := e.1) (val := e.2.1) (kb := e.2.2) hr hy hb hbm hg hf (Nat.le_of_ble_eq_true hlt)
                exact hval _ _ _ _ h1 (tup3 h2 h3) h4 hk
              · cases hk
            · rename_i e1 el hne hf
              split at hk
              · split at hk
                · rename_i hcond
                  simp only [Bool.and_eq_true] at hcond
                  rw [natsK_eq, nfK_eq, T.setK_eq] at hk
                  obtain ⟨e2, el2, rfl⟩ : ∃ e2 el2, el = e2 :: el2 := by
                    cases el with
                    | nil => exact absurd rfl hne
                    | cons a b => exact ⟨a, b, rfl⟩
                  obtain ⟨x, u, w', h1, h2, h3⟩ := next_first_ok (ty := type) hr hy hb hbm hf hcond.1 hcond.2
                  exact hval _ _ _ _ h1 (tup3 (.unk x) h2) h3 hk
                · cases hk
              · cases hk
          · cases hk
      · rename_i m since st cnt last hb
        split at hk
        · cases hk
        · split at hk
          · rename_i es clock hbm
            split at hk
            · cases hk
            rename_i hcond
            simp only [Bool.and_eq_true, Bool.not_eq_true'] at hcond
            have hse : stampsOf es = st := by have := hcond.1; rw [leqL_eq, decide_eq_true_eq] at this; exact this
            split at hk
            · rename_i hcnt
              exact hval _ _ _ _ hr tup1 (next_done_ok hr hy hb hbm hse hcond.2 (Nat.eq_of_beq_eq_true hcnt)) hk
            · rename_i hcnt
              split at hk
              · cases hk
              · rename_i e1 el
                split at hk
                · rename_i hu
                  rw [natK_eq, nfK_eq, T.setK_eq] at hk
                  obtain ⟨x, u, w', h1, h2, h3⟩ := next_more_ok (ty := type) hr hy hb hbm hse hcond.2 rfl hu (Nat.ne_of_beq_eq_false hcnt)
                  rw [hse] at h1
                  exact hval _ _ _ _ h1 (tup3 (.unk x) h2) h3 hk
                · cases hk
          · cases hk
      · cases hk
    · cases hk
  case convert src d x =>
    split at hk
    · rename_i s hx
      split at hk
      · rename_i elem esz hsrc hdst
        split at hk
        · rename_i hel
          split at hk
          · rw [natsK_eq] at hk
            exact (bytes_ok hr (he _ _ hx) hsrc rfl hdst hel hk).act fun x w' hx => exec_v hx
          · cases hk
        · cases hk
      · cases hk
    · cases hk
  case defer c =>
    obtain ⟨callee, args, ats⟩ := c
    dsimp only at hk
    split at hk
    · rename_i f
      split at hk
      · rename_i f' first cap hf
        split at hk
        · rename_i as has
          obtain ⟨p, q, hfe, hp, hq⟩ := (he _ _ hf).fn_inv
          have hA := evs_ok he has
          refine .defer _ { target := .fn (.func f') ⟨q⟩, args := ⟨p ++ args.toList.map ρ⟩ } (.call f' _ q _ ((hp.append hA).append hq)) ?_ hk
          simp [execOp, resolve, Deferred.ofValue, hfe, map_list, Result.andThen]
        · cases hk
      · cases hk
    · cases hk
  case call c =>
    obtain ⟨callee, args, ats⟩ := c
    dsimp only at hk
    split at hk
    · rename_i f
      split at hk
      · rename_i f' first cap hf
        split at hk
        · rename_i as has
          obtain ⟨p, q, hfe, hp, hq⟩ := (he _ _ hf).fn_inv
          have hA := evs_ok he has
          refine .call f' _ (p ++ args.toList.map ρ ++ q) ((hp.append hA).append hq) ?_ hk
          simp only [execOp, resolve, Deferred.ofValue, hfe, map_list, Sem.run_bind, Sem.run_pure, andThen_ok, invoke]
          congr 2
          apply Array.ext'; simp
        · cases hk
      · rename_i l hf
        split at hk
        · rename_i as has
          obtain ⟨c, hfe, hc⟩ := (he _ _ hf).yld_inv
          refine .round l c as (args.toList.map ρ) hc (evs_ok he has) ?_ hk
          simp only [execOp, resolve, Deferred.ofValue, hfe, map_list, Sem.run_bind, Sem.run_pure, andThen_ok, invoke]
          congr 2
          apply Array.ext'; simp
        · cases hk
      · cases hk
    · rename_i rv name
      split at hk
      · rename_i t v hrv
        obtain ⟨y, hre, hy⟩ := (he _ _ hrv).iface_inv
        split at hk
        · rename_i f hm
          split at hk
          · rename_i as has
            rcases methI_ok (P := P) (w := w) hm with ⟨_, hmeth⟩ | ⟨e, h, _⟩
            · refine .call f _ (y :: args.toList.map ρ) (.cons _ _ _ _ hy (evs_ok he has)) ?_ hk
              simp only [execOp, resolve, hre, map_list, Sem.run_bind, Sem.run_pure, andThen_ok, invoke]
              have htk : List.take args.size (List.map ρ args.toList) = List.map ρ args.toList := List.take_of_length_le (by simp)
              simp [callMethod, hmeth, Result.andThen, htk]
            · cases h
          · cases hk
        · rename_i f e hm
          split at hk
          · rename_i b off
            split at hk
            · rename_i x hx
              split at hk
              · rename_i as has
                obtain ⟨c, rfl, hc⟩ := hy.ptr_inv
                obtain ⟨X, hX, hrun⟩ := loadT_ok hr hc hx
                rcases methI_ok (P := P) (w := w) hm with ⟨h, _⟩ | ⟨e', h, hmeth⟩
                · cases h
                · cases h
                  have hm2 := hmeth _ _ hrun
                  refine .call f _ (X :: args.toList.map ρ) (.cons _ _ _ _ hX (evs_ok he has)) ?_ hk
                  simp only [execOp, resolve, hre, map_list, Sem.run_bind, Sem.run_pure, andThen_ok, invoke]
                  have htk : List.take args.size (List.map ρ args.toList) = List.map ρ args.toList := List.take_of_length_le (by simp)
                  simp [callMethod, hm2, Result.andThen, htk]
              · cases hk
            · cases hk
          · cases hk
        · cases hk
      · cases hk
    · split at hk
      · rename_i s x t u hargs hats
        split at hk
        · cases hk
        · rename_i du hnd hu
          have hA := evs_ok he hargs
          generalize hz : args.toList.map ρ = zs at hA
          cases hA with
          | cons _ S' _ ys hS hA' =>
          cases hA' with
          | cons _ X _ ys' hX hN =>
          cases hN
          have h1 : args.map ρ = ⟨[S', X]⟩ := by rw [map_list, hz]
          have h2 : ats = ⟨[t, u]⟩ := by apply Array.ext'; rw [hats]
          refine (appendK_ok (ty := type) hr hS hX hu (fun k e => hnd k (by rw [e])) hk).act fun x w' hx => ?_
          simp only [execOp, resolve, Sem.run_bind, Sem.run_pure, andThen_ok, invoke, builtin, h1, h2, hx]
        · cases hk
      · cases hk
    · split at hk
      · rename_i d s t ts hargs hats
        have hA := evs_ok he hargs
        generalize hz : args.toList.map ρ = zs at hA
        cases hA with
        | cons _ D _ ys hD hA' =>
        cases hA' with
        | cons _ S' _ ys' hS hN =>
        cases hN
        have h1 : args.map ρ = ⟨[D, S']⟩ := by rw [map_list, hz]
        have h2 : ats = ⟨t :: ts⟩ := by apply Array.ext'; rw [hats]
        refine (copyK_ok (ty := type) (ts := ts) hr hD hS hk).act fun x w' hx => ?_
        simp only [execOp, resolve, Sem.run_bind, Sem.run_pure, andThen_ok, invoke, builtin, h1, h2, hx]
      · cases hk
    · split at hk
      · rename_i m key t ts hargs hats
        have hA := evs_ok he hargs
        generalize hz : args.toList.map ρ = zs at hA
        cases hA with
        | cons _ M _ ys hM hA' =>
        cases hA' with
        | cons _ K _ ys' hK hN =>
        cases hN
        have h1 : args.map ρ = ⟨[M, K]⟩ := by rw [map_list, hz]
        have h2 : ats = ⟨t :: ts⟩ := by apply Array.ext'; rw [hats]
        have hex : ∀ {x : Value} {w' : World}, (Builtin.delete_ ⟨t :: ts⟩ type ⟨[M, K]⟩).run P w = .ok x w' → (execOp ρ ⟨dst, .call ⟨.builtin .delete, args, ats⟩, type, pos, after, guard⟩).run P w = .ok (.value x) w' := fun hx => by
          simp only [execOp, resolve, Sem.run_bind, Sem.run_pure, andThen_ok, invoke, builtin, h1, h2, hx]
        split at hk
        · rename_i kt et hu
          split at hk
          · cases hk
          rename_i hpk
          split at hk
          · have hd := delete_nil (P := P) (w := w) (ty := type) (ts := ts) (ys := []) hu hK hpk
            rw [hM.nilm_inv] at hex
            exact .val _ h r _ w hr r.le_refl (.tup [] [] .nil) (.inl (hex hd)) hk
          · rename_i b
            split at hk
            · rename_i es clock hb
              split at hk
              · rename_i i fv hf
                rw [T.setK_eq] at hk
                obtain ⟨w', h1', h2'⟩ := delete_ok (ty := type) (ts := ts) (ys := []) hr hu hM hK hpk hb hf
                exact .val _ _ r _ w' h1' r.le_refl (.tup [] [] .nil) (.inl (hex h2')) hk
              · rename_i hf
                obtain ⟨w', h1', h2'⟩ := delete_ok (ty := type) (ts := ts) (ys := []) hr hu hM hK hpk hb hf
                exact .val _ _ r _ w' h1' r.le_refl (.tup [] [] .nil) (.inl (hex h2')) hk
              · cases hk
            · cases hk
          · cases hk
        · cases hk
      · cases hk
    · refine .recover ?_ hk
      simp only [execOp, resolve, Sem.run_bind, Sem.run_pure, andThen_ok, invoke, builtin]
    · cases hk
end ops
end
end Go.Ev
