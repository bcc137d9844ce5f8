/- The step machine: what an operation that only reads gives. -/
import Derived.Test.YthadnmpneonmfaaGreatDoorEvC
namespace Go.Ev
open Go Go.RowKit
noncomputable section

-- texts
theorem leqL_eq : ∀ (x y : List Nat), leqL x y = decide (x = y)
  | [], [] => by simp [leqL]
  | [], _ :: _ => by simp [leqL]
  | _ :: _, [] => by simp [leqL]
  | a :: x, b :: y => by
    simp only [leqL]
    cases h : Nat.beq a b with
    | true => have := Nat.eq_of_beq_eq_true h; subst this; simp [leqL_eq x y]
    | false => have : a ≠ b := Nat.ne_of_beq_eq_false h; simp [this]
theorem lessL_eq : ∀ (x y : List UInt8), lessL (x.map UInt8.toNat) (y.map UInt8.toNat) = Op.bytesLess x y
  | [], [] => rfl
  | _ :: _, [] => rfl
  | [], _ :: _ => rfl
  | a :: x, b :: y => by
    simp only [List.map_cons, lessL, Op.bytesLess]
    have h1 : (Nat.ble (Nat.succ a.toNat) b.toNat) = decide (a < b) := by
      rw [Bool.eq_iff_iff]; simp [UInt8.lt_iff_toNat_lt, Nat.ble_eq]; omega
    have h2 : Nat.beq a.toNat b.toNat = (a == b) := by
      rw [Bool.eq_iff_iff]; simp [Nat.beq_eq, UInt8.toNat_inj]
    rw [h1, h2]
    cases decide (a < b) <;> cases (a == b) <;> simp [lessL_eq x y]
theorem u8s_inj : ∀ {x y : List UInt8}, x.map UInt8.toNat = y.map UInt8.toNat → x = y
  | [], [], _ => rfl
  | [], _ :: _, h => by simp at h
  | _ :: _, [], h => by simp at h
  | a :: x, b :: y, h => by
    simp only [List.map_cons, List.cons.injEq] at h
    rw [UInt8.toNat_inj.1 h.1, u8s_inj h.2]
theorem leqL_bytes (x y : ByteArray) : leqL (x.data.toList.map UInt8.toNat) (y.data.toList.map UInt8.toNat) = (x.toList == y.toList) := by
  rw [leqL_eq, Go.ByteArray.toList_eq, Go.ByteArray.toList_eq, Bool.eq_iff_iff]
  simp only [decide_eq_true_eq, beq_iff_eq]
  exact ⟨u8s_inj, fun h => by rw [h]⟩
theorem size_data (x : ByteArray) : (x.data.toList.map UInt8.toNat).length = x.size := by
  rw [List.length_map]; rfl
theorem append_data (x y : ByteArray) : (x ++ y).data.toList.map UInt8.toNat = x.data.toList.map UInt8.toNat ++ y.data.toList.map UInt8.toNat := by
  simp [ByteArray.data_append]
theorem extract_data (x : ByteArray) (l h : Nat) : (x.extract l h).data.toList.map UInt8.toNat = ((x.data.toList.map UInt8.toNat).take h).drop l := by
  rw [ByteArray.data_extract, Array.toList_extract]
  simp [List.extract, List.map_take, List.map_drop, List.drop_take]
theorem strOp_run {P : Program} {w : World} {op : BinOp} {x y : ByteArray} {v : V} (h : strOp op (x.data.toList.map UInt8.toNat) (y.data.toList.map UInt8.toNat) = some v) :
    ∃ u, (∀ r, VR r v u) ∧ (Op.stringOp op x y).run P w = .ok u w := by
  cases op <;> simp only [strOp, Option.some.injEq, reduceCtorEq] at h
  case add =>
    split at h
    · rename_i hle
      cases h
      have hle := Nat.le_of_ble_eq_true hle
      simp only [Nat.add_eq, size_data] at hle
      exact ⟨_, fun r => .str _ (x ++ y) (append_data x y), run_string_add_sum w x y (by omega)⟩
    · cases h
  all_goals
    subst h
    refine ⟨_, fun r => .bool _, ?_⟩
    simp only [leqL_bytes, lessL_eq]
    simp [Op.stringOp, Go.ByteArray.toList_eq]

-- constants
section
variable {r : Ren}
theorem ofVal0_ok {v : Value} {a : V} (h : ofVal0 v = some a) : VR r a v := by
  unfold ofVal0 at h
  split at h <;> cases h <;> constructor
  rfl
theorem ofVals_ok : ∀ {l : List Value} {a : List V}, ofVals l = some a → VRs r a l
  | [], _, h => by cases h; exact .nil
  | v :: l, a, h => by
    simp only [ofVals] at h
    split at h
    · rename_i b hb
      split at h
      · rename_i m hm
        cases h; exact .cons _ _ _ _ (ofVal0_ok hb) (ofVals_ok hm)
      · cases h
    · cases h
theorem ofVal_ok {v : Value} {a : V} (h : ofVal v = some a) : VR r a v := by
  unfold ofVal at h
  split at h
  · rename_i cs
    split at h
    · rename_i l hl
      cases h
      exact .agg l cs.toList (ofVals_ok hl)
    · cases h
  · exact ofVal0_ok h
theorem ofVal_ne {v : Value} {a : V} (h : ofVal v = some a) : a ≠ .unk := by
  intro e; subst e
  unfold ofVal at h
  split at h
  · split at h <;> cases h
  · unfold ofVal0 at h; split at h <;> cases h
/-- What the operands stand for. -/
def ER (r : Ren) (tm : Nat → Option V) (ρ : Operand → Value) : Prop := ∀ x v, ev tm x = some v → VR r v (ρ x)
theorem ER.of {P : Program} {w0 : Base} {w : World} {h : H} {tm : Nat → Option V} {tmps : Array Value} {ds : List Deferred} (hr : HR P w0 r h w) (ht : ∀ t v, tm t = some v → ∃ x, tmps[t]? = some x ∧ VR r v x) : ER r tm (Act.eval ⟨tmps, ds⟩) := by
  intro x v hv
  cases x with
  | tmp t =>
    obtain ⟨y, hy, hvr⟩ := ht t v hv
    show VR r v (tmps.getD t undef)
    rw [Array.getD_eq_getD_getElem?, hy]; exact hvr
  | const c => exact ofVal_ok hv
  | global g =>
    simp only [ev] at hv
    split at hv
    · rename_i hle
      cases hv
      exact .ptr g 0 g (hr.glob g (Nat.le_of_ble_eq_true hle))
    · cases hv
  | func f => cases hv; exact .fn f [] [] [] [] .nil .nil
theorem evs_ok {tm : Nat → Option V} {ρ : Operand → Value} (he : ER r tm ρ) : ∀ {l : List Operand} {a : List V}, evs tm l = some a → VRs r a (l.map ρ)
  | [], _, h => by cases h; exact .nil
  | x :: l, a, h => by
    simp only [evs] at h
    split at h
    · rename_i b hb
      split at h
      · rename_i m hm
        cases h; exact .cons _ _ _ _ (he _ _ hb) (evs_ok he hm)
      · cases h
    · cases h
inductive PRs (r : Ren) : List (Nat × V) → List (Nat × Value) → Prop
  | nil : PRs r [] []
  | cons (i : Nat) (v : V) (x : Value) (a : List (Nat × V)) (b : List (Nat × Value)) (h : VR r v x) (k : PRs r a b) : PRs r ((i, v) :: a) ((i, x) :: b)
theorem evParts_ok {tm : Nat → Option V} {ρ : Operand → Value} (he : ER r tm ρ) : ∀ {l : List (Nat × Operand)} {a : List (Nat × V)}, evParts tm l = some a → PRs r a (l.map fun p => (p.1, ρ p.2))
  | [], _, h => by cases h; exact .nil
  | x :: l, a, h => by
    simp only [evParts] at h
    split at h
    · rename_i b hb
      split at h
      · rename_i m hm
        cases h; exact .cons _ _ _ _ _ (he _ _ hb) (evParts_ok he hm)
      · cases h
    · cases h
theorem fillAt_ok : ∀ {vc : List V} {xc : List Value} {cells : List V} {arr : Array Value} (off j : Nat), VRs r vc xc → VRs r cells arr.toList →
    VRs r (fillAt vc (off + j) cells) (((xc.zipIdx j).foldl (fun cs (p : Value × Nat) => cs.setIfInBounds (off + p.2) p.1) arr).toList)
  | _, _, _, _, _, _, .nil, h => h
  | _, _, cells, arr, off, j, .cons v x a y hv k, h => by
    simp only [fillAt, List.zipIdx_cons, List.foldl_cons]
    refine fillAt_ok (off := off) (j := j + 1) k ?_
    rw [Array.toList_setIfInBounds]
    exact h.set _ hv
theorem fillAt_length : ∀ (vc : List V) (off : Nat) (cells : List V), (fillAt vc off cells).length = cells.length
  | [], _, _ => rfl
  | v :: vc, off, cells => by simp only [fillAt]; rw [fillAt_length vc]; simp
theorem fillL_ok {place place' : Nat → Option (Nat × Nat)} (hp : ∀ i p, place i = some p → place' i = some p) : ∀ {ps : List (Nat × V)} {xs : List (Nat × Value)} {cells l : List V} {arr : Array Value}, PRs r ps xs → VRs r cells arr.toList →
    fillL place cells ps = some l → ∃ arr', Instr.fill place' arr xs = some arr' ∧ VRs r l arr'.toList
  | _, _, cells, l, arr, .nil, h, hf => by cases hf; exact ⟨arr, rfl, h⟩
  | _, _, cells, l, arr, .cons i v x a b hv k, h, hf => by
    simp only [fillL] at hf
    cases hpl : place i with
    | none => rw [hpl] at hf; cases hf
    | some p =>
      obtain ⟨off, size⟩ := p
      rw [hpl] at hf
      dsimp only at hf
      cases hc : v.cellsO with
      | none => rw [hc] at hf; cases hf
      | some vc =>
        rw [hc] at hf
        dsimp only at hf
        split at hf
        · cases hf
        · rename_i hbeq
          split at hf
          · cases hf
          · rename_i hble
            have hlen := Nat.eq_of_beq_eq_true hbeq
            have hle := Nat.le_of_ble_eq_true hble
            have hcl := h.length
            have hvc := hv.cellsO hc
            have hxl := hvc.length
            have h1 : x.cells.size = size := by rw [← hlen, hxl]; rfl
            have h2 : off + size ≤ arr.size := by simp only [Nat.add_eq] at hle; rw [hcl] at hle; simpa using hle
            obtain ⟨arr', e1, e2⟩ := fillL_ok hp k (arr := (x.cells.zipIdx.foldl (fun cs (p : Value × Nat) => cs.setIfInBounds (off + p.2) p.1) arr)) (by
              have := fillAt_ok off 0 hvc h
              rw [← Array.foldl_toList]
              simpa using this) hf
            refine ⟨arr', ?_, e2⟩
            simp only [Instr.fill, hp i _ hpl]
            rw [if_neg (by simp [h1]; omega)]
            exact e1
end
end
end Go.Ev
