/- The step machine: what an operation that only reads gives, all of them. -/
import Derived.Test.YthadnmpneonmfaaGreatDoorEvG
namespace Go.Ev
open Go Go.RowKit
noncomputable section
section ops
variable {P : Program} {w0 : Base} {w : World} {r : Ren} {h : H} {tm : Nat → Option V} {ρ : Operand → Value}

theorem assertV_ok {xt at_ : Nat} {x v : V} {y : Value} {ok : Bool} (hx : VR r x y) (ha : assertV P x at_ ok = some v) : ∃ u, VR r v u ∧ (Instr.typeAssert y xt at_ ok).run P w = .ok u w := by
  have hpair : ∀ {a : V} {b : Value} (t : Bool), VR r a b → VR r (.tup [a, .bool t]) (.tuple #[b, .bool t]) := fun t hv => .tup _ [_, _] (.cons _ _ _ _ hv (.cons _ _ _ _ (.bool t) .nil))
  unfold assertV at ha
  split at ha
  · cases ha
  · rename_i want hu
    split at ha
    · rename_i t u
      split at ha
      · rename_i i hi
        split at ha
        · rename_i hm
          cases ha
          obtain ⟨z, rfl, hz⟩ := hx.iface_inv
          cases ok
          · exact ⟨_, .iface t _ _ hz, by simp [Instr.typeAssert, run_underlying hu, typeInfo, hi, hm, Result.andThen]⟩
          · exact ⟨_, hpair true (.iface t _ _ hz), by simp [Instr.typeAssert, run_underlying hu, typeInfo, hi, hm, Result.andThen]⟩
        · cases ha
      · cases ha
    · split at ha
      · split at ha
        · rename_i zv hzv
          cases ha
          rw [hx.nilIface_inv]
          obtain ⟨i, q, hi, hq, hvr, _⟩ := zeroV_spec (r := r) hzv
          exact ⟨_, hpair false hvr, by simp [Instr.typeAssert, run_underlying hu, Result.andThen, run_zeroValue hi hq]⟩
        · cases ha
      · cases ha
    · cases ha
  · rename_i d hni hu
    have hd : ∀ ms, d ≠ .interface ms := fun ms e => hni ms e
    split at ha
    · rename_i t u
      obtain ⟨z, rfl, hz⟩ := hx.iface_inv
      split at ha
      · rename_i hb
        cases ha
        have := Nat.eq_of_beq_eq_true hb; subst this
        refine ⟨if ok then .tuple #[z, .bool true] else z, ?_, ?_⟩
        · cases ok
          · exact hz
          · exact hpair true hz
        · cases d <;> first | exact absurd rfl (hd _) | (cases ok <;> simp [Instr.typeAssert, run_underlying hu, Result.andThen])
      · rename_i hb
        have hne := Nat.ne_of_beq_eq_false hb
        split at ha
        · split at ha
          · rename_i zv hzv
            cases ha
            obtain ⟨i, q, hi, hq, hvr, _⟩ := zeroV_spec (r := r) hzv
            refine ⟨_, hpair false hvr, ?_⟩
            cases d <;> first | exact absurd rfl (hd _) | simp [Instr.typeAssert, run_underlying hu, Result.andThen, hne, run_zeroValue hi hq]
          · cases ha
        · cases ha
    · split at ha
      · split at ha
        · rename_i zv hzv
          cases ha
          rw [hx.nilIface_inv]
          obtain ⟨i, q, hi, hq, hvr, _⟩ := zeroV_spec (r := r) hzv
          refine ⟨_, hpair false hvr, ?_⟩
          cases d <;> first | exact absurd rfl (hd _) | simp [Instr.typeAssert, run_underlying hu, Result.andThen, run_zeroValue hi hq]
        · cases ha
      · cases ha
    · cases ha
theorem cellEqT_ok {t : Nat} {a b : V} {u v : Value} {q : Bool} (hc : cellEqT P t a b = some q) (hu : VR r a u) (hv : VR r b v) (d : Nat) (w : World) :
    (isAgg t).run P w = .ok false w ∧ (Op.equalIn (d + 1) t u v).run P w = .ok q w := by
  unfold cellEqT at hc
  split at hc
  · rename_i x y ht
    cases hc
    rw [hu.bool_inv, hv.bool_inv]
    exact ⟨by simp [isAgg, run_underlying ht, Result.andThen], run_equalIn_bool' w d t _ _ ht⟩
  · rename_i k x j y ht
    split at hc
    · rename_i hk
      cases hc
      have := kindEq_eq hk; subst this
      rw [hu.int_inv, hv.int_inv, eqF_eq]
      exact ⟨by simp [isAgg, run_underlying ht, Result.andThen], run_equalIn_int w d t _ _ _ _ ht⟩
    · cases hc
  · rename_i x y ht
    cases hc
    obtain ⟨p, rfl, hp⟩ := hu.str_inv
    obtain ⟨q, rfl, hq⟩ := hv.str_inv
    rw [← hp, ← hq, leqL_bytes]
    exact ⟨by simp [isAgg, run_underlying ht, Result.andThen], run_equalIn_string w d t _ _ ht⟩
  · cases hc
theorem VRs.drop_at {l : List V} {xs : List Value} (h : VRs r l xs) {i : Nat} {a : V} {x : List V} (e : l.drop i = a :: x) : ∃ u, xs[i]? = some u ∧ VR r a u ∧ l.drop (i + 1) = x := by
  have h1 : l[i]? = some a := by
    have : (l.drop i)[0]? = some a := by rw [e]; rfl
    simpa using this
  obtain ⟨u, hu, hv⟩ := h.get h1
  refine ⟨u, hu, hv, ?_⟩
  have : (l.drop i).drop 1 = x := by rw [e]; rfl
  rw [List.drop_drop] at this
  exact this
theorem eqFs_ok {l m : List V} {xs ys : List Value} (hx : VRs r l xs) (hy : VRs r m ys) (w : World) : ∀ (fs : List Field) (i : Nat) (x y : List V) (b : Bool), l.drop i = x → m.drop i = y →
    eqFs P fs i x y = some b → (Op.eqFields 9999 ⟨xs⟩ ⟨ys⟩ fs).run P w = .ok b w
  | [], i, x, y, b, _, _, hc => by
    cases x <;> cases y <;> simp only [eqFs, Option.some.injEq, reduceCtorEq] at hc
    subst hc; rfl
  | f :: fs, i, x, y, b, h1, h2, hc => by
    cases x with
    | nil => cases y <;> simp [eqFs] at hc
    | cons a x' =>
    cases y with
    | nil => simp [eqFs] at hc
    | cons c y' =>
      simp only [eqFs] at hc
      split at hc
      · rename_i hcond
        simp only [Bool.and_eq_true, bne_iff_ne, ne_eq] at hcond
        have ho := Nat.eq_of_beq_eq_true hcond.1
        obtain ⟨u, hu, hau, h1'⟩ := hx.drop_at h1
        obtain ⟨v, hv, hcv, h2'⟩ := hy.drop_at h2
        split at hc
        · rename_i hq
          obtain ⟨hag, heq⟩ := cellEqT_ok hq hau hcv 9998 w
          have hp1 : (Go.part f.type ⟨xs⟩ f.offset).run P w = .ok u w := by simp [Go.part, hag, ho, hu, Result.andThen]
          have hp2 : (Go.part f.type ⟨ys⟩ f.offset).run P w = .ok v w := by simp [Go.part, hag, ho, hv, Result.andThen]
          have := eqFs_ok hx hy w fs (i + 1) _ _ b h1' h2' hc
          simp [Op.eqFields, hcond.2, hp1, hp2, heq, Result.andThen, this]
        · rename_i hq
          cases hc
          obtain ⟨hag, heq⟩ := cellEqT_ok hq hau hcv 9998 w
          have hp1 : (Go.part f.type ⟨xs⟩ f.offset).run P w = .ok u w := by simp [Go.part, hag, ho, hu, Result.andThen]
          have hp2 : (Go.part f.type ⟨ys⟩ f.offset).run P w = .ok v w := by simp [Go.part, hag, ho, hv, Result.andThen]
          simp [Op.eqFields, hcond.2, hp1, hp2, heq, Result.andThen]
        · cases hc
      · cases hc
theorem guardNil (xo yo : Operand) (h : (isConst xo || isConst yo) = true) (t : Nat) (op : BinOp) : (eqGuard op t xo yo .nilIface .nilIface).run P w = .ok () w := by
  cases op <;> cases xo <;> cases yo <;> simp [isConst] at h <;> simp [eqGuard]
theorem eq_fin {t : Nat} {X Y : Value} {b : Bool} {op : BinOp} (hop : op = .eql ∨ op = .neq) (hE : ∀ d, (Op.equalIn (d + 1) t X Y).run P w = .ok b w) (h1 : binOp .eql t X Y = do pure (.bool (← Op.equal t X Y)))
    (h2 : binOp .neq t X Y = do pure (.bool (!(← Op.equal t X Y)))) : (binOp op t X Y).run P w = .ok (.bool (if op = .eql then b else !b)) w := by
  have hE' : (Op.equal t X Y).run P w = .ok b w := hE 9999
  rcases hop with rfl | rfl
  · rw [h1]; simp [hE', Result.andThen]
  · rw [h2]; simp [hE', Result.andThen]
theorem eqV_ok {t : Nat} {x y : V} {X Y : Value} {xo yo : Operand} {b : Bool} (hx : VR r x X) (hy : VR r y Y) (he : eqV P t x y (isConst xo || isConst yo) = some b) (op : BinOp) (hop : op = .eql ∨ op = .neq) :
    (eqGuard op t xo yo X Y).run P w = .ok () w ∧ (binOp op t X Y).run P w = .ok (.bool (if op = .eql then b else !b)) w := by
  unfold eqV at he
  split at he
  · rename_i a c hu
    cases he
    rw [hx.bool_inv, hy.bool_inv]
    exact ⟨by rcases hop with rfl | rfl <;> simp [eqGuard], eq_fin hop (fun d => by simp [Op.equalIn, run_underlying hu, Result.andThen]) rfl rfl⟩
  · rename_i e hu
    cases he
    rw [hx.nilp_inv, hy.nilp_inv]
    exact ⟨by rcases hop with rfl | rfl <;> simp [eqGuard], eq_fin hop (fun d => by simp [Op.equalIn, run_underlying hu, Result.andThen]) rfl rfl⟩
  · rename_i e c o hu
    cases he
    obtain ⟨k, rfl, _⟩ := hy.ptr_inv
    rw [hx.nilp_inv]
    exact ⟨by rcases hop with rfl | rfl <;> simp [eqGuard], eq_fin hop (fun d => by simp [Op.equalIn, run_underlying hu, Result.andThen]) rfl rfl⟩
  · rename_i e c o hu
    cases he
    obtain ⟨k, rfl, _⟩ := hx.ptr_inv
    rw [hy.nilp_inv]
    exact ⟨by rcases hop with rfl | rfl <;> simp [eqGuard], eq_fin hop (fun d => by simp [Op.equalIn, run_underlying hu, Result.andThen]) rfl rfl⟩
  · rename_i ms hu
    split at he
    · rename_i hc
      cases he
      rw [hx.nilIface_inv, hy.nilIface_inv]
      exact ⟨guardNil xo yo hc t op, eq_fin hop (fun d => by simp [Op.equalIn, run_underlying hu, Result.andThen]) rfl rfl⟩
    · cases he
  · rename_i ms tt v hu
    cases he
    obtain ⟨q, rfl, _⟩ := hy.iface_inv
    rw [hx.nilIface_inv]
    exact ⟨by rcases hop with rfl | rfl <;> simp [eqGuard], eq_fin hop (fun d => by simp [Op.equalIn, run_underlying hu, Result.andThen]) rfl rfl⟩
  · rename_i ms tt v hu
    cases he
    obtain ⟨q, rfl, _⟩ := hx.iface_inv
    rw [hy.nilIface_inv]
    exact ⟨by rcases hop with rfl | rfl <;> simp [eqGuard], eq_fin hop (fun d => by simp [Op.equalIn, run_underlying hu, Result.andThen]) rfl rfl⟩
  · rename_i e hu
    cases he
    rw [hx.nils_inv, hy.nils_inv]
    exact ⟨by rcases hop with rfl | rfl <;> simp [eqGuard], eq_fin hop (fun d => by simp [Op.equalIn, run_underlying hu, Result.andThen]) rfl rfl⟩
  · rename_i e c o n cp hu
    cases he
    obtain ⟨k, m, rfl, _⟩ := hy.sl_inv
    rw [hx.nils_inv]
    exact ⟨by rcases hop with rfl | rfl <;> simp [eqGuard], eq_fin hop (fun d => by simp [Op.equalIn, run_underlying hu, Result.andThen]) rfl rfl⟩
  · rename_i e hu
    cases he
    obtain ⟨k, m, rfl⟩ := hy.emp_inv
    rw [hx.nils_inv]
    exact ⟨by rcases hop with rfl | rfl <;> simp [eqGuard], eq_fin hop (fun d => by simp [Op.equalIn, run_underlying hu, Result.andThen]) rfl rfl⟩
  · rename_i e hu
    cases he
    obtain ⟨k, m, rfl⟩ := hx.emp_inv
    rw [hy.nils_inv]
    exact ⟨by rcases hop with rfl | rfl <;> simp [eqGuard], eq_fin hop (fun d => by simp [Op.equalIn, run_underlying hu, Result.andThen]) rfl rfl⟩
  · rename_i e c o n cp hu
    cases he
    obtain ⟨k, m, rfl, _⟩ := hx.sl_inv
    rw [hy.nils_inv]
    exact ⟨by rcases hop with rfl | rfl <;> simp [eqGuard], eq_fin hop (fun d => by simp [Op.equalIn, run_underlying hu, Result.andThen]) rfl rfl⟩
  · rename_i e c hu
    cases he
    rw [hx.nilm_inv, hy.nilm_inv]
    exact ⟨by rcases hop with rfl | rfl <;> simp [eqGuard], eq_fin hop (fun d => by simp [Op.equalIn, run_underlying hu, Result.andThen]) rfl rfl⟩
  · rename_i e c b' hu
    cases he
    obtain ⟨k, rfl, _⟩ := hy.map_inv
    rw [hx.nilm_inv]
    exact ⟨by rcases hop with rfl | rfl <;> simp [eqGuard], eq_fin hop (fun d => by simp [Op.equalIn, run_underlying hu, Result.andThen]) rfl rfl⟩
  · rename_i e c b' hu
    cases he
    obtain ⟨k, rfl, _⟩ := hx.map_inv
    rw [hy.nilm_inv]
    exact ⟨by rcases hop with rfl | rfl <;> simp [eqGuard], eq_fin hop (fun d => by simp [Op.equalIn, run_underlying hu, Result.andThen]) rfl rfl⟩
  · rename_i e1 e2 e3 hu
    cases he
    rw [hx.nilFunc_inv, hy.nilFunc_inv]
    exact ⟨by rcases hop with rfl | rfl <;> simp [eqGuard], eq_fin hop (fun d => by simp [Op.equalIn, run_underlying hu, Result.andThen]) rfl rfl⟩
  · rename_i e1 e2 e3 f a c hu
    cases he
    obtain ⟨p, q, rfl, _⟩ := hy.fn_inv
    rw [hx.nilFunc_inv]
    exact ⟨by rcases hop with rfl | rfl <;> simp [eqGuard], eq_fin hop (fun d => by simp [Op.equalIn, run_underlying hu, Result.andThen]) rfl rfl⟩
  · rename_i e1 e2 e3 f a c hu
    cases he
    obtain ⟨p, q, rfl, _⟩ := hx.fn_inv
    rw [hy.nilFunc_inv]
    exact ⟨by rcases hop with rfl | rfl <;> simp [eqGuard], eq_fin hop (fun d => by simp [Op.equalIn, run_underlying hu, Result.andThen]) rfl rfl⟩
  · rename_i fs a c hu
    split at he
    · rename_i hcond
      simp only [Bool.and_eq_true, Bool.not_eq_true'] at hcond
      obtain ⟨p, rfl, hp⟩ := hx.agg_inv
      obtain ⟨q, rfl, hq⟩ := hy.agg_inv
      have hfo : P.fieldsOf t = fs := by simp [Program.fieldsOf, hu]
      have hu' : P.underlying t = some (.struct (P.fieldsOf t)) := by rw [hfo]; exact hu
      have hrun := eqFs_ok (P := P) hp hq w fs.toList 0 a c b (by simp) (by simp) he
      have hE : (Op.equalIn 10000 t (.agg ⟨p⟩) (.agg ⟨q⟩)).run P w = .ok b w := by
        rw [show (10000 : Nat) = 9999 + 1 from rfl, run_equalIn_struct w 9999 t _ _ hu' hcond.1, hfo]; exact hrun
      refine ⟨run_eqGuard_agg w op t xo yo _ _ hcond.2, ?_⟩
      rcases hop with rfl | rfl
      · rw [run_eql_struct, hE]; rfl
      · rw [run_neq_struct, hE]; rfl
    · cases he
  · cases he
end ops
end
end Go.Ev
