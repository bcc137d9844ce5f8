/- Contracts of functions of the program, walked, and plain laws. -/
import Derived.Test.YtncodmefagealaaGreatDoorEvMA
/- The step machine: numbers, texts, constants. -/
namespace Go.Ev
open Go Go.RowKit
noncomputable section

theorem modK_eq (k : IntKind) : ((modK k : Nat) : Int) = 2 ^ k.bits := by cases k <;> rfl
theorem halfK_eq (k : IntKind) : ((halfK k : Nat) : Int) = 2 ^ (k.bits - 1) := by cases k <;> rfl
theorem modK_pos (k : IntKind) : 0 < modK k := by cases k <;> decide
theorem modK_half (k : IntKind) : modK k = 2 * halfK k := by cases k <;> rfl
theorem modK_nat (k : IntKind) : modK k = 2 ^ k.bits := by cases k <;> rfl
theorem toU_eq (k : IntKind) (n : Int) : ((toU k n : Nat) : Int) = n % 2 ^ k.bits := by
  rw [← modK_eq]
  have hp := modK_pos k
  cases n with
  | ofNat m => show ((m % modK k : Nat) : Int) = _; simp
  | negSucc m =>
    show (((modK k - 1) - m % modK k : Nat) : Int) = _
    have h1 : m % modK k < modK k := Nat.mod_lt _ hp
    rw [Int.negSucc_emod_ofNat]
    unfold Int.subNatNat
    split
    · simp; omega
    · omega
theorem toU_lt (k : IntKind) (n : Int) : toU k n < modK k := by
  have h := toU_eq k n
  rw [← modK_eq] at h
  have h2 := Int.emod_lt_of_pos n (show (0 : Int) < (modK k : Int) by have := modK_pos k; omega)
  omega
theorem adj_eq (k : IntKind) (r : Nat) (hr : r < modK k) : adj k r = k.wrap (r : Int) := by
  have h1 := modK_eq k
  have h2 := halfK_eq k
  have h3 := modK_half k
  have hm : ((r : Nat) : Int) % (2 ^ k.bits : Int) = r := by rw [← h1]; exact Int.emod_eq_of_lt (by omega) (by omega)
  unfold adj IntKind.wrap
  simp only [hm]
  cases hs : k.signed with
  | false => simp
  | true =>
    simp only [Bool.true_and]
    cases hb : Nat.ble (halfK k) r with
    | true =>
      have hle : halfK k ≤ r := Nat.le_of_ble_eq_true hb
      rw [if_pos (by simp; rw [← h2]; omega), ← h1]
      show Int.negSucc (modK k - r - 1) = _
      omega
    | false =>
      have hlt : ¬ halfK k ≤ r := fun h => by rw [Nat.ble_eq_true_of_le h] at hb; cases hb
      rw [if_neg (by simp; rw [← h2]; omega)]
      rfl
theorem wrapF_eq (k : IntKind) (n : Int) : wrapF k n = k.wrap n := by
  unfold wrapF
  rw [adj_eq k _ (toU_lt k n), toU_eq]
  unfold IntKind.wrap
  rw [Int.emod_emod_of_dvd _ (Int.dvd_refl _)]
theorem ltF_eq (x y : Int) : ltF x y = decide (x < y) := by
  cases x <;> cases y <;> simp only [ltF]
  · rw [Bool.eq_iff_iff]; simp [Nat.ble_eq]; omega
  · simp; omega
  · simp; omega
  · rw [Bool.eq_iff_iff]; simp [Nat.ble_eq]; omega
theorem eqF_eq (x y : Int) : eqF x y = (x == y) := by
  cases x <;> cases y <;> simp only [eqF]
  · rw [Bool.eq_iff_iff]; simp only [Nat.beq_eq, beq_iff_eq]; exact ⟨fun h => by rw [h], fun h => Int.ofNat.inj h⟩
  · rfl
  · rfl
  · rw [Bool.eq_iff_iff]; simp [Nat.beq_eq]
theorem kindEq_eq {a b : IntKind} (h : kindEq a b = true) : a = b := by cases a <;> cases b <;> first | rfl | cases h
theorem bitsK_eq (k : IntKind) : bitsK k = k.bits := by cases k <;> rfl
theorem ofInt_toNat (k : IntKind) (x : Int) : (BitVec.ofInt k.bits x).toNat = toU k x := by
  have h := toU_eq k x
  have h2 := toU_lt k x
  rw [BitVec.toNat_ofInt]
  have e : ((2 ^ k.bits : Nat) : Int) = 2 ^ k.bits := by rw [← modK_nat, modK_eq]
  rw [e, ← h]; simp
theorem toU_back (k : IntKind) (x : Int) : (x % 2 ^ k.bits).toNat = toU k x := by rw [← toU_eq]; simp
theorem shl_run {P : Program} {w : World} {k j : IntKind} {x y z : Int} (h : shlF k x y = some z) : (Op.shift .shl k x j y).run P w = .ok (.int k z) w := by
  unfold shlF at h
  cases y with
  | negSucc m => cases h
  | ofNat s =>
    cases h
    rw [wrapF_eq, bitsK_eq]
    have hn : ¬ (Int.ofNat s < 0) := by simp
    have e : Int.mul x (Int.ofNat (Nat.pow 2 (Nat.min s k.bits))) = x * 2 ^ (min s k.bits) := by
      show x * ((2 ^ (min s k.bits) : Nat) : Int) = _
      rw [Int.natCast_pow]; rfl
    rw [e]
    unfold Op.shift
    rw [if_neg hn]
    rfl
theorem shr_run {P : Program} {w : World} {k j : IntKind} {x y z : Int} (h : shrF k x y = some z) : (Op.shift .shr k x j y).run P w = .ok (.int k z) w := by
  unfold shrF at h
  cases y with
  | negSucc m => cases h
  | ofNat s =>
    have hn : ¬ (Int.ofNat s < 0) := by simp
    unfold Op.shift
    rw [if_neg hn]
    have e2 : (2 : Int) ^ (min (Int.ofNat s).toNat k.bits) = ((2 ^ (min s k.bits) : Nat) : Int) := by rw [Int.natCast_pow]; rfl
    have hp : 0 < 2 ^ (min s k.bits) := Nat.pow_pos (by omega)
    show (pure (Value.int k (x.fdiv (2 ^ (min (Int.ofNat s).toNat k.bits)))) : Sem Value).run P w = _
    rw [e2, Int.fdiv_eq_ediv_of_nonneg _ (by omega)]
    cases x with
    | ofNat m => cases h; rw [bitsK_eq]; rfl
    | negSucc m =>
      cases h; rw [bitsK_eq]
      obtain ⟨q, hq⟩ : ∃ q, 2 ^ (min s k.bits) = q + 1 := ⟨2 ^ (min s k.bits) - 1, by omega⟩
      have e3 : Nat.pow 2 (Nat.min s k.bits) = q + 1 := hq
      rw [hq, e3]; rfl
theorem intOp_run {P : Program} {w : World} {op : BinOp} {k : IntKind} {x y : Int} {v : V} (h : intOp op k x y = some v) (hns : op ≠ .shl ∧ op ≠ .shr) :
    ∃ u, (∀ r, VR r v u) ∧ (binOp op 0 (.int k x) (.int k y)).run P w = .ok u w ∧ ∀ t, binOp op t (.int k x) (.int k y) = binOp op 0 (.int k x) (.int k y) := by
  have ht : ∀ t, binOp op t (.int k x) (.int k y) = binOp op 0 (.int k x) (.int k y) := by
    intro t; cases op <;> first | rfl | exact absurd rfl hns.1 | exact absurd rfl hns.2
  have hand : ∀ a b : Nat, a < modK k → Nat.land a b < modK k := fun a b ha => Nat.lt_of_le_of_lt Nat.and_le_left ha
  have hx := toU_lt k x
  have hy := toU_lt k y
  cases op <;> simp only [intOp, Option.some.injEq, reduceCtorEq] at h
  case add => subst h; exact ⟨_, fun r => .int k _, by rw [wrapF_eq]; simp [binOp, Op.intArith] <;> rfl, ht⟩
  case sub => subst h; exact ⟨_, fun r => .int k _, by rw [wrapF_eq]; simp [binOp, Op.intArith] <;> rfl, ht⟩
  case mul => subst h; exact ⟨_, fun r => .int k _, by rw [wrapF_eq]; simp [binOp, Op.intArith] <;> rfl, ht⟩
  case quo =>
    rw [eqF_eq] at h
    cases hz : (y == Int.ofNat 0) <;> rw [hz] at h <;> simp at h
    subst h
    have hz' : ¬ y = 0 := by simpa using hz
    exact ⟨_, fun r => .int k _, by rw [wrapF_eq]; simp [binOp, Op.intDiv, hz'], ht⟩
  case rem =>
    rw [eqF_eq] at h
    cases hz : (y == Int.ofNat 0) <;> rw [hz] at h <;> simp at h
    subst h
    have hz' : ¬ y = 0 := by simpa using hz
    exact ⟨_, fun r => .int k _, by simp [binOp, Op.intDiv, hz'], ht⟩
  case and =>
    subst h
    refine ⟨_, fun r => .int k _, ?_, ht⟩
    rw [adj_eq k _ (hand _ _ hx)]
    simp [binOp, Op.intBits, toU_back] <;> rfl
  case or =>
    subst h
    refine ⟨_, fun r => .int k _, ?_, ht⟩
    rw [adj_eq k _ (by rw [modK_nat] at *; exact Nat.or_lt_two_pow hx hy)]
    simp [binOp, Op.intBits, toU_back] <;> rfl
  case xor =>
    subst h
    refine ⟨_, fun r => .int k _, ?_, ht⟩
    rw [adj_eq k _ (by rw [modK_nat] at *; exact Nat.xor_lt_two_pow hx hy)]
    simp [binOp, Op.intBits, toU_back] <;> rfl
  case andNot =>
    subst h
    refine ⟨_, fun r => .int k _, ?_, ht⟩
    rw [adj_eq k _ (hand _ _ hx)]
    simp [binOp, Op.intBits, toU_back, BitVec.toNat_not, modK_nat] <;> rfl
  case eql => subst h; exact ⟨_, fun r => .bool _, by rw [eqF_eq]; simp [binOp, Op.intCmp], ht⟩
  case neq => subst h; exact ⟨_, fun r => .bool _, by rw [eqF_eq]; simp [binOp, Op.intCmp, bne], ht⟩
  case lss => subst h; exact ⟨_, fun r => .bool _, by rw [ltF_eq]; simp [binOp, Op.intCmp], ht⟩
  case leq =>
    subst h
    have e : decide (x ≤ y) = !decide (y < x) := by rw [Bool.eq_iff_iff]; simp <;> omega
    exact ⟨_, fun r => .bool _, by rw [ltF_eq, ← e]; simp [binOp, Op.intCmp], ht⟩
  case gtr => subst h; exact ⟨_, fun r => .bool _, by rw [ltF_eq]; simp [binOp, Op.intCmp], ht⟩
  case geq =>
    subst h
    have e : decide (x ≥ y) = !decide (x < y) := by rw [Bool.eq_iff_iff]; simp <;> omega
    exact ⟨_, fun r => .bool _, by rw [ltF_eq, ← e]; simp [binOp, Op.intCmp], ht⟩
end
end Go.Ev
/- The step machine: what an operation that only reads gives. -/
namespace Go.Ev
open Go Go.RowKit
noncomputable section

-- texts
theorem leqL_eq : ∀ (x y : List Nat), leqL x y = decide (x = y)
  | [], [] => by simp [leqL]
  | [], _ :: _ => by simp [leqL]
  | _ :: _, [] => by simp [leqL]
  | a :: x, b :: y => by
    simp only [leqL]
    cases h : Nat.beq a b with
    | true => have := Nat.eq_of_beq_eq_true h; subst this; simp [leqL_eq x y]
    | false => have : a ≠ b := Nat.ne_of_beq_eq_false h; simp [this]
theorem lessL_eq : ∀ (x y : List UInt8), lessL (x.map UInt8.toNat) (y.map UInt8.toNat) = Op.bytesLess x y
  | [], [] => rfl
  | _ :: _, [] => rfl
  | [], _ :: _ => rfl
  | a :: x, b :: y => by
    simp only [List.map_cons, lessL, Op.bytesLess]
    have h1 : (Nat.ble (Nat.succ a.toNat) b.toNat) = decide (a < b) := by
      rw [Bool.eq_iff_iff]; simp [UInt8.lt_iff_toNat_lt, Nat.ble_eq]; omega
    have h2 : Nat.beq a.toNat b.toNat = (a == b) := by
      rw [Bool.eq_iff_iff]; simp [Nat.beq_eq, UInt8.toNat_inj]
    rw [h1, h2]
    cases decide (a < b) <;> cases (a == b) <;> simp [lessL_eq x y]
theorem u8s_inj : ∀ {x y : List UInt8}, x.map UInt8.toNat = y.map UInt8.toNat → x = y
  | [], [], _ => rfl
  | [], _ :: _, h => by simp at h
  | _ :: _, [], h => by simp at h
  | a :: x, b :: y, h => by
    simp only [List.map_cons, List.cons.injEq] at h
    rw [UInt8.toNat_inj.1 h.1, u8s_inj h.2]
theorem leqL_bytes (x y : ByteArray) : leqL (x.data.toList.map UInt8.toNat) (y.data.toList.map UInt8.toNat) = (x.toList == y.toList) := by
  rw [leqL_eq, Go.ByteArray.toList_eq, Go.ByteArray.toList_eq, Bool.eq_iff_iff]
  simp only [decide_eq_true_eq, beq_iff_eq]
  exact ⟨u8s_inj, fun h => by rw [h]⟩
theorem size_data (x : ByteArray) : (x.data.toList.map UInt8.toNat).length = x.size := by
  rw [List.length_map]; rfl
theorem append_data (x y : ByteArray) : (x ++ y).data.toList.map UInt8.toNat = x.data.toList.map UInt8.toNat ++ y.data.toList.map UInt8.toNat := by
  simp [ByteArray.data_append]
theorem extract_data (x : ByteArray) (l h : Nat) : (x.extract l h).data.toList.map UInt8.toNat = ((x.data.toList.map UInt8.toNat).take h).drop l := by
  rw [ByteArray.data_extract, Array.toList_extract]
  simp [List.extract, List.map_take, List.map_drop, List.drop_take]
theorem strOp_run {P : Program} {w : World} {op : BinOp} {x y : ByteArray} {v : V} (h : strOp op (x.data.toList.map UInt8.toNat) (y.data.toList.map UInt8.toNat) = some v) :
    ∃ u, (∀ r, VR r v u) ∧ (Op.stringOp op x y).run P w = .ok u w := by
  cases op <;> simp only [strOp, Option.some.injEq, reduceCtorEq] at h
  case add =>
    split at h
    · rename_i hle
      cases h
      have hle := Nat.le_of_ble_eq_true hle
      simp only [Nat.add_eq, size_data] at hle
      exact ⟨_, fun r => .str _ (x ++ y) (append_data x y), run_string_add_sum w x y (by omega)⟩
    · cases h
  all_goals
    subst h
    refine ⟨_, fun r => .bool _, ?_⟩
    simp only [leqL_bytes, lessL_eq]
    simp [Op.stringOp, Go.ByteArray.toList_eq]

-- constants
section
variable {r : Ren}
theorem ofVal0_ok {v : Value} {a : V} (h : ofVal0 v = some a) : VR r a v := by
  unfold ofVal0 at h
  split at h <;> cases h <;> constructor
  rfl
theorem ofVals_ok : ∀ {l : List Value} {a : List V}, ofVals l = some a → VRs r a l
  | [], _, h => by cases h; exact .nil
  | v :: l, a, h => by
    simp only [ofVals] at h
    split at h
    · rename_i b hb
      split at h
      · rename_i m hm
        cases h; exact .cons _ _ _ _ (ofVal0_ok hb) (ofVals_ok hm)
      · cases h
    · cases h
theorem ofVal_ok {v : Value} {a : V} (h : ofVal v = some a) : VR r a v := by
  unfold ofVal at h
  split at h
  · rename_i cs
    split at h
    · rename_i l hl
      cases h
      exact .agg l cs.toList (ofVals_ok hl)
    · cases h
  · exact ofVal0_ok h
theorem ofVal_ne {v : Value} {a : V} (h : ofVal v = some a) : a ≠ .unk := by
  intro e; subst e
  unfold ofVal at h
  split at h
  · split at h <;> cases h
  · unfold ofVal0 at h; split at h <;> cases h
/-- What the operands stand for. -/
def ER (r : Ren) (tm : Nat → Option V) (ρ : Operand → Value) : Prop := ∀ x v, ev tm x = some v → VR r v (ρ x)
theorem ER.of {P : Program} {w0 : Base} {w : World} {h : H} {tm : Nat → Option V} {tmps : Array Value} {ds : List Deferred} (hr : HR P w0 r h w) (ht : ∀ t v, tm t = some v → ∃ x, tmps[t]? = some x ∧ VR r v x) : ER r tm (Act.eval ⟨tmps, ds⟩) := by
  intro x v hv
  cases x with
  | tmp t =>
    obtain ⟨y, hy, hvr⟩ := ht t v hv
    show VR r v (tmps.getD t undef)
    rw [Array.getD_eq_getD_getElem?, hy]; exact hvr
  | const c => exact ofVal_ok hv
  | global g =>
    simp only [ev] at hv
    split at hv
    · rename_i hle
      cases hv
      exact .ptr g 0 g 0 (hr.glob g (Nat.le_of_ble_eq_true hle)) (hr.gsh g (Nat.le_of_ble_eq_true hle))
    · cases hv
  | func f => cases hv; exact .fn f [] [] [] [] .nil .nil
theorem evs_ok {tm : Nat → Option V} {ρ : Operand → Value} (he : ER r tm ρ) : ∀ {l : List Operand} {a : List V}, evs tm l = some a → VRs r a (l.map ρ)
  | [], _, h => by cases h; exact .nil
  | x :: l, a, h => by
    simp only [evs] at h
    split at h
    · rename_i b hb
      split at h
      · rename_i m hm
        cases h; exact .cons _ _ _ _ (he _ _ hb) (evs_ok he hm)
      · cases h
    · cases h
inductive PRs (r : Ren) : List (Nat × V) → List (Nat × Value) → Prop
  | nil : PRs r [] []
  | cons (i : Nat) (v : V) (x : Value) (a : List (Nat × V)) (b : List (Nat × Value)) (h : VR r v x) (k : PRs r a b) : PRs r ((i, v) :: a) ((i, x) :: b)
theorem evParts_ok {tm : Nat → Option V} {ρ : Operand → Value} (he : ER r tm ρ) : ∀ {l : List (Nat × Operand)} {a : List (Nat × V)}, evParts tm l = some a → PRs r a (l.map fun p => (p.1, ρ p.2))
  | [], _, h => by cases h; exact .nil
  | x :: l, a, h => by
    simp only [evParts] at h
    split at h
    · rename_i b hb
      split at h
      · rename_i m hm
        cases h; exact .cons _ _ _ _ _ (he _ _ hb) (evParts_ok he hm)
      · cases h
    · cases h
theorem fillAt_ok : ∀ {vc : List V} {xc : List Value} {cells : List V} {arr : Array Value} (off j : Nat), VRs r vc xc → VRs r cells arr.toList →
    VRs r (fillAt vc (off + j) cells) (((xc.zipIdx j).foldl (fun cs (p : Value × Nat) => cs.setIfInBounds (off + p.2) p.1) arr).toList)
  | _, _, _, _, _, _, .nil, h => h
  | _, _, cells, arr, off, j, .cons v x a y hv k, h => by
    simp only [fillAt, List.zipIdx_cons, List.foldl_cons]
    refine fillAt_ok (off := off) (j := j + 1) k ?_
    rw [Array.toList_setIfInBounds]
    exact h.set _ hv
theorem fillAt_length : ∀ (vc : List V) (off : Nat) (cells : List V), (fillAt vc off cells).length = cells.length
  | [], _, _ => rfl
  | v :: vc, off, cells => by simp only [fillAt]; rw [fillAt_length vc]; simp
theorem fillL_ok {place place' : Nat → Option (Nat × Nat)} (hp : ∀ i p, place i = some p → place' i = some p) : ∀ {ps : List (Nat × V)} {xs : List (Nat × Value)} {cells l : List V} {arr : Array Value}, PRs r ps xs → VRs r cells arr.toList →
    fillL place cells ps = some l → ∃ arr', Instr.fill place' arr xs = some arr' ∧ VRs r l arr'.toList
  | _, _, cells, l, arr, .nil, h, hf => by cases hf; exact ⟨arr, rfl, h⟩
  | _, _, cells, l, arr, .cons i v x a b hv k, h, hf => by
    simp only [fillL] at hf
    cases hpl : place i with
    | none => rw [hpl] at hf; cases hf
    | some p =>
      obtain ⟨off, size⟩ := p
      rw [hpl] at hf
      dsimp only at hf
      cases hc : v.cellsO with
      | none => rw [hc] at hf; cases hf
      | some vc =>
        rw [hc] at hf
        dsimp only at hf
        split at hf
        · cases hf
        · rename_i hbeq
          split at hf
          · cases hf
          · rename_i hble
            have hlen := Nat.eq_of_beq_eq_true hbeq
            have hle := Nat.le_of_ble_eq_true hble
            have hcl := h.length
            have hvc := hv.cellsO hc
            have hxl := hvc.length
            have h1 : x.cells.size = size := by rw [← hlen, hxl]; rfl
            have h2 : off + size ≤ arr.size := by simp only [Nat.add_eq] at hle; rw [hcl] at hle; simpa using hle
            obtain ⟨arr', e1, e2⟩ := fillL_ok hp k (arr := (x.cells.zipIdx.foldl (fun cs (p : Value × Nat) => cs.setIfInBounds (off + p.2) p.1) arr)) (by
              have := fillAt_ok off 0 hvc h
              rw [← Array.foldl_toList]
              simpa using this) hf
            refine ⟨arr', ?_, e2⟩
            simp only [Instr.fill, hp i _ hpl]
            rw [if_neg (by simp [h1]; omega)]
            exact e1
end
end
end Go.Ev
/- The step machine: what an operation that only reads gives. -/
namespace Go.Ev
open Go Go.RowKit
noncomputable section
section ops
variable {P : Program} {w0 : Base} {w : World} {r : Ren} {h : H} {tm : Nat → Option V} {ρ : Operand → Value}

theorem andThen_ok {α β : Type} (a : α) (w : World) (f : α → World → Result β) : (Result.ok a w).andThen f = f a w := rfl
theorem exec_v {s : Sem Value} {x : Value} {w' : World} (hs : s.run P w = .ok x w') : (do pure (Next.value (← s)) : Sem Next).run P w = .ok (.value x) w' := by
  simp [hs, Result.andThen]
theorem zeroV_spec {t : Nat} {z : V} (hz : zeroV P t = some z) : ∃ i zv, P.info? t = some i ∧ i.zero = some zv ∧ VR r z zv ∧ VRs r z.cells zv.cells.toList := by
  unfold zeroV at hz
  split at hz
  · rename_i i hi
    split at hz
    · rename_i zv hzv
      exact ⟨i, zv, hi, hzv, ofVal_ok hz, (ofVal_ok hz).cells (ofVal_ne hz)⟩
    · cases hz
  · cases hz
theorem run_zeroValue {t : Nat} {i : TypeInfo} {zv : Value} (hi : P.info? t = some i) (hz : i.zero = some zv) (w : World) : (zeroValue t).run P w = .ok zv w := by
  simp [zeroValue, typeInfo, hi, hz, Result.andThen]
theorem placesL_ok : ∀ {l : List Field} {pl : List (Nat × Nat)}, placesL P l = some pl → l.mapM (fun f => (P.info? f.type).map fun i => (f.offset, i.size)) = some pl
  | [], _, h => by cases h; rfl
  | f :: fs, pl, h => by
    simp only [placesL] at h
    split at h
    · rename_i i hi
      split at h
      · rename_i l hl
        cases h
        simp [List.mapM_cons, hi, placesL_ok hl]
      · cases h
    · cases h
theorem build_ok {t : Nat} {ps : List (Nat × V)} {xs : List (Nat × Value)} {v : V} (hp : PRs r ps xs) (hb : buildV P t ps = some v) : ∃ x, VR r v x ∧ (Instr.build t ⟨xs⟩).run P w = .ok x w := by
  unfold buildV at hb
  split at hb
  · rename_i z hz
    obtain ⟨i, zv, hi, hzv, _, hcs⟩ := zeroV_spec (r := r) hz
    split at hb
    · rename_i fs hu
      split at hb
      · rename_i pl hpl
        split at hb
        · rename_i l hl
          cases hb
          have hpl' := hpl
          simp only [placesT, hu] at hpl'
          obtain ⟨arr, e1, e2⟩ := fillL_ok (place' := (pl.toArray[·]?)) (fun i p hp => by simpa using hp) hp hcs hl
          refine ⟨.agg arr, .agg l arr.toList e2, run_build w t ⟨xs⟩ arr ?_⟩
          simp only [Program.built, hi, hu, hzv, placesL_ok hpl']
          exact e1
        · cases hb
      · cases hb
    · rename_i n elem hu
      split at hb
      · rename_i g n' ht
        split at hb
        · rename_i l hl
          cases hb
          unfold tyI at ht
          split at ht
          · rename_i d ie hd hie
            simp only [Option.some.injEq, Prod.mk.injEq] at ht
            obtain ⟨arr, e1, e2⟩ := fillL_ok (place' := fun i => some (i * ie.size, ie.size)) (fun i p hp => by rw [← ht.2] at hp; exact hp) hp hcs hl
            refine ⟨.agg arr, .agg l arr.toList e2, run_build w t ⟨xs⟩ arr ?_⟩
            simp only [Program.built, hi, hu, hzv, hie]
            exact e1
          · cases ht
        · cases hb
      · cases hb
    · cases hb
  · cases hb
theorem part_ok {t off n : Nat} {g : Bool} {l : List V} {xs : List Value} {v : V} (ht : tyI P t = some (g, n)) (hv : VRs r l xs) (hp : part g l off n = some v) : ∃ x, VR r v x ∧ (Go.part t ⟨xs⟩ off).run P w = .ok x w := by
  obtain ⟨h1, h2, _⟩ := tyI_spec ht
  cases g with
  | true =>
    cases hp
    refine ⟨.agg ⟨(xs.drop off).take n⟩, .agg _ _ ((hv.drop off).take n), ?_⟩
    unfold Go.part
    simp only [Sem.run_bind, h1, h2, andThen_ok, if_true, Sem.run_pure]
    congr 2
    apply Array.ext'
    simp [List.extract]
  | false =>
    obtain ⟨x, hx, hvr⟩ := hv.get hp
    refine ⟨x, hvr, ?_⟩
    unfold Go.part
    simp [h1, Result.andThen, hx]
theorem fieldI_spec {t f o n : Nat} {g : Bool} (hf : fieldI P t f = some (o, n, g)) : ∃ fs fd, P.underlying t = some (.struct fs) ∧ fs[f]? = some fd ∧ fd.offset = o ∧ tyI P fd.type = some (g, n) := by
  unfold fieldI at hf
  split at hf
  · rename_i fs hu
    split at hf
    · rename_i fd hfd
      split at hf
      · rename_i g' n' ht
        simp only [Option.some.injEq, Prod.mk.injEq] at hf
        obtain ⟨h1, h2, h3⟩ := hf
        subst h1 h2 h3
        exact ⟨fs, fd, hu, hfd, rfl, ht⟩
      · cases hf
    · cases hf
  · cases hf
theorem fieldAt_ok {t f o n _b off c : Nat} {g : Bool} (hf : fieldI P t f = some (o, n + 1, g)) : (Instr.fieldAt t (.pointer (some ⟨c, off, none⟩)) f).run P w = .ok (.pointer (some ⟨c, off + o, none⟩)) w := by
  obtain ⟨fs, fd, hu, hfd, rfl, ht⟩ := fieldI_spec hf
  obtain ⟨_, h2, _⟩ := tyI_spec ht
  simp [Instr.fieldAt, run_underlying hu, hfd, Instr.sureAddr, fieldPlace, h2, Result.andThen, add_none]
theorem field_ok {t f o n : Nat} {g : Bool} {l : List V} {xs : List Value} {v : V} (hf : fieldI P t f = some (o, n, g)) (hv : VRs r l xs) (hp : part g l o n = some v) : ∃ x, VR r v x ∧ (Instr.field t (.agg ⟨xs⟩) f).run P w = .ok x w := by
  obtain ⟨fs, fd, hu, hfd, rfl, ht⟩ := fieldI_spec hf
  obtain ⟨x, hx, hr⟩ := part_ok (w := w) ht hv hp
  exact ⟨x, hx, by simp [Instr.field, run_underlying hu, hfd, asAgg, hr, Result.andThen]⟩
theorem sliceElem_spec {t elem n : Nat} {g : Bool} (hs : sliceElem P t = some (elem, n, g)) : P.underlying t = some (.slice elem) ∧ tyI P elem = some (g, n) := by
  unfold sliceElem at hs
  split at hs
  · rename_i e hu
    split at hs
    · rename_i g' n' ht
      simp only [Option.some.injEq, Prod.mk.injEq] at hs
      obtain ⟨h1, h2, h3⟩ := hs
      subst h1 h2 h3
      exact ⟨hu, ht⟩
    · cases hs
  · cases hs
theorem indexAt_sl {t elem n i len cp c off : Nat} {k : IntKind} {g : Bool} (hs : sliceElem P t = some (elem, n, g)) (hi : i < len) :
    (Instr.indexAt t (.slice (some ⟨c, off, none⟩) len cp) (.int k (.ofNat i))).run P w = .ok (.pointer (some ⟨c, off + i * n, none⟩)) w := by
  obtain ⟨hu, ht⟩ := sliceElem_spec hs
  obtain ⟨_, h2, _⟩ := tyI_spec ht
  simp [Instr.indexAt, asIntOf, run_underlying hu, h2, Result.andThen, hi, add_none]
theorem indexAt_arr {t elem n m i c off : Nat} {k : IntKind} {g : Bool} (hu : P.underlying t = some (.array m elem)) (ht : tyI P elem = some (g, n)) (hi : i < m) :
    (Instr.indexAt t (.pointer (some ⟨c, off, none⟩)) (.int k (.ofNat i))).run P w = .ok (.pointer (some ⟨c, off + i * n, none⟩)) w := by
  obtain ⟨_, h2, _⟩ := tyI_spec ht
  simp [Instr.indexAt, asIntOf, run_underlying hu, h2, Result.andThen, hi, add_none, Instr.sureAddr]
theorem index_str {t i b : Nat} {k : IntKind} {x : ByteArray} (hu : P.underlying t = some .string) (hb : (x.data.toList.map UInt8.toNat)[i]? = some b) :
    (Instr.index t (.string x) (.int k (.ofNat i))).run P w = .ok (.int .u8 (.ofNat b)) w := by
  rw [List.getElem?_map] at hb
  cases hx : x.data.toList[i]? with
  | none => rw [hx] at hb; cases hb
  | some u =>
    rw [hx] at hb; cases hb
    have hlt : i < x.size := by
      have := (List.getElem?_eq_some_iff.1 hx).1
      simpa using this
    have e : x[i]? = some u := by
      rw [Go.ByteArray.getElem?_lt' x i hlt]
      have : x.data[i]? = some u := by simpa using hx
      rw [Array.getElem?_eq_getElem (by simpa using hlt)] at this
      have this : x.data[i]'(by simpa using hlt) = u := by simpa using this
      exact congrArg some this
    simp [Instr.index, asIntOf, run_underlying hu, Result.andThen, e]
theorem index_arr {t elem n m i : Nat} {k : IntKind} {g : Bool} {l : List V} {xs : List Value} {v : V} (hu : P.underlying t = some (.array m elem)) (ht : tyI P elem = some (g, n)) (hi : i < m) (hv : VRs r l xs)
    (hp : part g l (i * n) n = some v) : ∃ x, VR r v x ∧ (Instr.index t (.agg ⟨xs⟩) (.int k (.ofNat i))).run P w = .ok x w := by
  obtain ⟨_, h2, _⟩ := tyI_spec ht
  obtain ⟨x, hx, hr⟩ := part_ok (w := w) ht hv hp
  exact ⟨x, hx, by simp [Instr.index, asIntOf, run_underlying hu, h2, Result.andThen, hi, hr]⟩

-- slices
theorem optNat_none {d n : Nat} (ho : optNat tm none d = some n) : n = d := (Option.some.inj ho).symm
theorem optNat_some (he : ER r tm ρ) {x : Operand} {d n : Nat} (ho : optNat tm (some x) d = some n) : ∃ k, ρ x = .int k (n : Int) := by
  simp only [optNat] at ho
  split at ho
  · rename_i k m hx
    cases ho
    exact ⟨k, (he x _ hx).int_inv⟩
  · cases ho
theorem sliceBound_run {k : IntKind} {n y : Nat} {code : BoundsCode} (hn : n ≤ y) : (Instr.sliceBound (.int k (n : Int)) y code).run P w = .ok n w := by
  simp [Instr.sliceBound, asIntOf, hn]
theorem bounds_run (he : ER r tm ρ) {s : Bool} {len cap m hh l : Nat} {lo hi mx : Option Operand} (hk : hiOk hi mx = true) (hm : optNat tm mx cap = some m) (hh' : optNat tm hi len = some hh) (hl : optNat tm lo 0 = some l)
    (h1 : l ≤ hh) (h2 : hh ≤ m) (h3 : m ≤ cap) (h4 : hi = none → hh ≤ cap) : (Instr.sliceBounds s len cap (lo.map ρ) (hi.map ρ) (mx.map ρ)).run P w = .ok (l, hh, m) w := by
  cases mx with
  | none =>
    have := optNat_none hm; subst this
    cases hi with
    | none =>
      have := optNat_none hh'; subst this
      cases lo with
      | none => have := optNat_none hl; subst this; simp [Instr.sliceBounds]
      | some x => obtain ⟨k, e⟩ := optNat_some he hl; simp [Instr.sliceBounds, Result.andThen, e, sliceBound_run h1]
    | some y =>
      obtain ⟨k', e'⟩ := optNat_some he hh'
      cases lo with
      | none => have := optNat_none hl; subst this; simp [Instr.sliceBounds, Result.andThen, e', sliceBound_run h2]
      | some x => obtain ⟨k, e⟩ := optNat_some he hl; simp [Instr.sliceBounds, Result.andThen, e, e', sliceBound_run h1, sliceBound_run h2]
  | some z =>
    obtain ⟨k2, e2⟩ := optNat_some he hm
    cases hi with
    | none => cases hk
    | some y =>
      obtain ⟨k', e'⟩ := optNat_some he hh'
      cases lo with
      | none => have := optNat_none hl; subst this; simp [Instr.sliceBounds, Result.andThen, e', e2, sliceBound_run h2, sliceBound_run h3]
      | some x => obtain ⟨k, e⟩ := optNat_some he hl; simp [Instr.sliceBounds, Result.andThen, e, e', e2, sliceBound_run h1, sliceBound_run h2, sliceBound_run h3]
theorem addr_if {c off l m esz : Nat} : (if m = l then (⟨c, off, none⟩ : Addr) else Addr.add ⟨c, off, none⟩ (l * esz)) = ⟨c, match Nat.beq m l with | true => off | false => Nat.add off (Nat.mul l esz), none⟩ := by
  cases hb : Nat.beq m l with
  | true => rw [if_pos (Nat.eq_of_beq_eq_true hb)]
  | false => rw [if_neg (Nat.ne_of_beq_eq_false hb), add_none]; rfl
theorem known_spec {b off esz j kn : Nat} (hk : known P h b off esz j = some kn) :
    ∃ e rw size z t, h.t.get b = some (.cells e rw true size z t) ∧ off = j * esz ∧ off ≤ size ∧ 0 < esz ∧ kn = (size - off) / esz ∧ P.cellsOf e = esz := by
  unfold known at hk
  split at hk
  · rename_i e rw opn size z t hb
    split at hk
    · rename_i g n ht
      split at hk
      · rename_i e' hcond
        simp only [Bool.and_eq_true] at hcond
        cases hk
        have h1 := Nat.le_of_ble_eq_true hcond.1
        have h2 := Nat.eq_of_beq_eq_true hcond.2.2.1
        have h3 := Nat.eq_of_beq_eq_true hcond.2.2.2
        refine ⟨e, rw, size, z, t, ?_, h2, h1, by omega, rfl, (tyI_spec ht).2.2.trans h3⟩
        rw [hb]; congr 2; exact hcond.2.1
      · cases hk
    · cases hk
  · cases hk
theorem known_le {cs size cp cap off j esz kn n sh : Nat} (h7 : sh + size ≤ cs) (h8 : cs = sh + cap * n) (hcap : cp + j = cap) (hoff : off = j * esz) (hk : kn = (size - off) / esz) (hpos : 0 < esz) (hn : n = esz) : kn ≤ cp := by
  subst hn
  rw [hk]
  have h : size - off ≤ cp * n := by
    rw [h8, ← hcap, Nat.add_mul] at h7
    omega
  exact Nat.le_trans (Nat.div_le_div_right h) (by rw [Nat.mul_div_cancel _ hpos]; exact Nat.le_refl _)
theorem sliceStr_ok (he : ER r tm ρ) {t : Nat} {s : ByteArray} {lo hi : Option Operand} {hh l : Nat} (hu : P.underlying t = some .string) (hk : hiOk hi none = true)
    (hh' : optNat tm hi s.size = some hh) (hl : optNat tm lo 0 = some l) (h1 : l ≤ hh) (h2 : hh ≤ s.size) :
    (Instr.slice t (.string s) (lo.map ρ) (hi.map ρ) none).run P w = .ok (.string (s.extract l hh)) w := by
  have := bounds_run (P := P) (w := w) he (s := false) (cap := s.size) (mx := none) hk rfl hh' hl h1 h2 (Nat.le_refl _) (fun _ => h2)
  simp only [Option.map_none] at this
  simp [Instr.slice, run_underlying hu, Result.andThen, this]
theorem sh_add (s : Nat) (m l off esz : Nat) : s + (match Nat.beq m l with | true => off | false => Nat.add off (Nat.mul l esz)) = match Nat.beq m l with | true => s + off | false => Nat.add (s + off) (Nat.mul l esz) := by
  cases Nat.beq m l
  · exact (Nat.add_assoc _ _ _).symm
  · rfl
theorem slice_run (he : ER r tm ρ) {t elem esz c off len cap : Nat} {g : Bool} {lo hi mx : Option Operand} {m hh l : Nat} (hu : P.underlying t = some (.slice elem)) (ht : tyI P elem = some (g, esz)) (hk : hiOk hi mx = true)
    (hm : optNat tm mx cap = some m) (hh' : optNat tm hi len = some hh) (hl : optNat tm lo 0 = some l) (h1 : l ≤ hh) (h2 : hh ≤ m) (h3 : m ≤ cap) :
    (Instr.slice t (.slice (some ⟨c, off, none⟩) len cap) (lo.map ρ) (hi.map ρ) (mx.map ρ)).run P w =
      .ok (.slice (some ⟨c, match Nat.beq m l with | true => off | false => Nat.add off (Nat.mul l esz), none⟩) (hh - l) (m - l)) w := by
  obtain ⟨_, h5, _⟩ := tyI_spec ht
  have := bounds_run (P := P) (w := w) he (s := true) hk hm hh' hl h1 h2 h3 (fun _ => by omega)
  rw [← addr_if]
  simp only [Instr.slice, Sem.run_bind, run_underlying hu, this, h5, andThen_ok, Sem.run_pure, Option.map_some]
  split <;> rfl
theorem sliceAt_run (he : ER r tm ρ) {t elem esz c off n : Nat} {g : Bool} {lo hi mx : Option Operand} {m hh l : Nat} (hu : P.underlying t = some (.array n elem)) (ht : tyI P elem = some (g, esz)) (hk : hiOk hi mx = true)
    (hm : optNat tm mx n = some m) (hh' : optNat tm hi n = some hh) (hl : optNat tm lo 0 = some l) (h1 : l ≤ hh) (h2 : hh ≤ m) (h3 : m ≤ n) :
    (Instr.sliceAt t (.pointer (some ⟨c, off, none⟩)) (lo.map ρ) (hi.map ρ) (mx.map ρ)).run P w =
      .ok (.slice (some ⟨c, match Nat.beq m l with | true => off | false => Nat.add off (Nat.mul l esz), none⟩) (hh - l) (m - l)) w := by
  obtain ⟨_, h5, _⟩ := tyI_spec ht
  have := bounds_run (P := P) (w := w) he (s := false) hk hm hh' hl h1 h2 h3 (fun _ => by omega)
  rw [← addr_if]
  simp only [Instr.sliceAt, Sem.run_bind, run_underlying hu, this, h5, andThen_ok, Sem.run_pure, Instr.sureAddr]
theorem sliceV_ok (hr : HR P w0 r h w) (he : ER r tm ρ) {t : Nat} {x v : V} {y : Value} {lo hi mx : Option Operand} (hx : VR r x y) (hk : hiOk hi mx = true) (hs : sliceV P tm h t x lo hi mx = some v) :
    ∃ u, VR r v u ∧ (Instr.slice t y (lo.map ρ) (hi.map ρ) (mx.map ρ)).run P w = .ok u w := by
  unfold sliceV at hs
  split at hs
  · -- a text
    rename_i s hu
    obtain ⟨z, rfl, hz⟩ := hx.str_inv
    subst hz
    cases mx with
    | some _ => cases hs
    | none =>
      dsimp only at hs
      rw [size_data] at hs
      split at hs
      · rename_i hh hhh
        split at hs
        · rename_i l hl
          split at hs
          · rename_i h1
            split at hs
            · rename_i h2
              cases hs
              refine ⟨.string (z.extract l hh), .str _ _ (extract_data z l hh), ?_⟩
              exact sliceStr_ok he hu hk hhh hl (Nat.le_of_ble_eq_true h1) (Nat.le_of_ble_eq_true h2)
            · cases hs
          · cases hs
        · cases hs
      · cases hs
  · -- nil
    rename_i e hu
    obtain rfl := hx.nils_inv
    split at hs
    · rename_i gn hm ht
      split at hs
      · rename_i hh
        split at hs
        · rename_i hl
          cases hs
          refine ⟨.slice none 0 0, .nils, ?_⟩
          have := bounds_run (P := P) (w := w) he (s := true) (len := 0) (cap := 0) hk hm hh hl (Nat.le_refl _) (Nat.le_refl _) (Nat.le_refl _) (fun _ => Nat.le_refl _)
          obtain ⟨g, n⟩ := gn
          obtain ⟨_, h5, _⟩ := tyI_spec ht
          simp [Instr.slice, run_underlying hu, this, h5, Result.andThen]
        · cases hs
      · cases hs
    · cases hs
  · rename_i e b off len cap hu
    obtain ⟨c, cp, rfl, hc, hcap⟩ := hx.sl_inv
    split at hs
    · cases hs
    · rename_i g esz ht
      split at hs
      · -- its room is known
        rename_i k
        obtain rfl : cp = k := hcap
        split at hs
        · cases hs
        rename_i m hm
        split at hs
        · cases hs
        rename_i hh hhh
        split at hs
        · cases hs
        rename_i l hl
        split at hs
        · cases hs
        rename_i h1
        split at hs
        · cases hs
        rename_i h2
        split at hs
        · cases hs
        rename_i h3
        cases hs
        exact ⟨_, .slx _ _ _ _ _ _ hc (sh_add ..), slice_run he hu ht hk hm hhh hl (Nat.le_of_ble_eq_true h1) (Nat.le_of_ble_eq_true h2) (Nat.le_of_ble_eq_true h3)⟩
      · rename_i j
        split at hs
        · cases hs
        · rename_i kn hkn
          obtain ⟨e', rw', size, z, t', hb, hoff, hle, hpos, hkn', hesz⟩ := known_spec hkn
          obtain ⟨cs, fz, _, _, _, h7, h8⟩ := hr.cells hb hc
          have h8' := h8.1 rfl
          have hkc : kn ≤ cp := known_le h7 h8' hcap hoff hkn' hpos hesz
          split at hs
          · rename_i mo
            split at hs
            · cases hs
            rename_i m hm
            split at hs
            · cases hs
            rename_i hh hhh
            split at hs
            · cases hs
            rename_i l hl
            split at hs
            · cases hs
            rename_i h1
            split at hs
            · cases hs
            rename_i h2
            split at hs
            · cases hs
            rename_i h3
            cases hs
            have hm' : optNat tm (some mo) cp = some m := hm
            exact ⟨_, .slx _ _ _ _ _ _ hc (sh_add ..), slice_run he hu ht hk hm' hhh hl (Nat.le_of_ble_eq_true h1) (Nat.le_of_ble_eq_true h2) (Nat.le_trans (Nat.le_of_ble_eq_true h3) hkc)⟩
          · split at hs
            · cases hs
            rename_i hh hhh
            split at hs
            · cases hs
            rename_i l hl
            split at hs
            · cases hs
            rename_i h1
            split at hs
            · cases hs
            rename_i h2
            have h1 := Nat.le_of_ble_eq_true h1
            have h2 := Nat.le_of_ble_eq_true h2
            have hrun := slice_run (P := P) (w := w) (c := c) (off := r.sh b + off) (mx := none) he hu ht hk (cap := cp) rfl hhh hl h1 (Nat.le_trans h2 hkc) (Nat.le_refl _)
            cases l with
            | zero =>
              cases hs
              refine ⟨_, ?_, hrun⟩
              cases cp with
              | zero => exact .slu _ _ _ _ _ _ _ hc hcap rfl
              | succ cp =>
                show VR r _ (Value.slice (some ⟨c, Nat.add (r.sh b + off) (Nat.mul 0 esz), none⟩) (hh - 0) (cp + 1 - 0))
                rw [show Nat.add (r.sh b + off) (Nat.mul 0 esz) = r.sh b + off by simp]
                exact .slu _ _ _ _ _ _ _ hc hcap rfl
            | succ l' =>
              dsimp only at hs
              split at hs
              · rename_i h5
                have h5 := Nat.le_of_ble_eq_true h5
                cases hs
                refine ⟨_, ?_, hrun⟩
                have hne : Nat.beq cp (l' + 1) = false := by
                  cases hb' : Nat.beq cp (l' + 1) with
                  | false => rfl
                  | true => have := Nat.eq_of_beq_eq_true hb'; omega
                rw [hne]
                exact .slu _ _ _ _ _ _ _ hc (by show cp - (l' + 1) + (j + (l' + 1)) = _; omega) (Nat.add_assoc _ _ _).symm
              · cases hs
                rename_i h5
                have h6 : hh = l' + 1 := by
                  have : ¬ (l' + 2 ≤ kn) := fun hle => by
                    have := Nat.ble_eq_true_of_le hle
                    rw [h5] at this; cases this
                  omega
                subst h6
                refine ⟨_, ?_, hrun⟩
                rw [Nat.sub_self]
                refine .emp _ _ _ c _ _ hc (by show cp - (l' + 1) + (j + (l' + 1)) = _; omega) _ (fun hm => ?_) rfl
                have hne : Nat.beq cp (l' + 1) = false := by
                  cases hb' : Nat.beq cp (l' + 1) with
                  | false => rfl
                  | true => have := Nat.eq_of_beq_eq_true hb'; omega
                rw [hne]
                show (⟨c, r.sh b + off + (l' + 1) * esz, none⟩ : Addr) = ⟨c, r.sh b + (off + (l' + 1) * esz), none⟩
                rw [Nat.add_assoc]
  · cases hs
end ops
end
end Go.Ev
/- The step machine: what an operation that only reads gives, all of them. -/
namespace Go.Ev
open Go Go.RowKit
noncomputable section
section ops
variable {P : Program} {w0 : Base} {w : World} {r : Ren} {h : H} {tm : Nat → Option V} {ρ : Operand → Value}

theorem sliceAtV_ok (hr : HR P w0 r h w) (he : ER r tm ρ) {t : Nat} {x v : V} {y : Value} {lo hi mx : Option Operand} (hx : VR r x y) (hs : sliceAtV P tm h t x lo hi mx = some v) :
    ∃ u, VR r v u ∧ (Instr.sliceAt t y (lo.map ρ) (hi.map ρ) (mx.map ρ)).run P w = .ok u w := by
  unfold sliceAtV at hs
  split at hs
  · cases hs
  rename_i hk
  cases hu : P.underlying t with
  | none =>
    rw [hu] at hs
    dsimp only at hs
    unfold sliceV at hs
    rw [hu] at hs
    cases x <;> cases hs
  | some d =>
    rw [hu] at hs
    have hgen : (∀ n e, d ≠ .array n e) → sliceV P tm h t x lo hi mx = some v → ∃ u, VR r v u ∧ (Instr.sliceAt t y (lo.map ρ) (hi.map ρ) (mx.map ρ)).run P w = .ok u w := by
      intro hd hs
      obtain ⟨u, h1, h2⟩ := sliceV_ok hr he hx hk hs
      refine ⟨u, h1, ?_⟩
      rw [← h2]
      cases d <;> first | (simp [Instr.sliceAt, run_underlying hu, Result.andThen]; done) | exact absurd rfl (hd _ _)
    cases d with
    | array n elem =>
      dsimp only at hs
      split at hs
      · rename_i b off g esz ht
        obtain ⟨c, rfl, hc⟩ := hx.ptr_inv
        obtain ⟨_, h5, _⟩ := tyI_spec ht
        split at hs
        · cases hs
        rename_i m hm
        split at hs
        · cases hs
        rename_i hh hhh
        split at hs
        · cases hs
        rename_i l hl
        split at hs
        · cases hs
        rename_i h1
        split at hs
        · cases hs
        rename_i h2
        split at hs
        · cases hs
        rename_i h3
        cases hs
        exact ⟨_, .slx _ _ _ _ c _ hc (sh_add ..), sliceAt_run he hu ht hk hm hhh hl (Nat.le_of_ble_eq_true h1) (Nat.le_of_ble_eq_true h2) (Nat.le_of_ble_eq_true h3)⟩
      · cases hs
    | _ => exact hgen (by intros; simp) hs
theorem bytesOf_spec : ∀ {l : List V} {xs : List Value} {bs : List Nat}, bytesOf l = some bs → VRs r l xs → xs = bs.map (fun (m : Nat) => Value.int .u8 (m : Int)) ∧ ∀ m ∈ bs, m < 256
  | [], _, _, hb, .nil => by cases hb; exact ⟨rfl, by simp⟩
  | v :: l, _, bs, hb, .cons _ x _ ys hv hl => by
    unfold bytesOf at hb
    split at hb
    · rename_i he; cases he
    · rename_i m l' he
      cases he
      split at hb
      · rename_i hlt
        split at hb
        · rename_i bs' hbs
          cases hb
          obtain ⟨e, hall⟩ := bytesOf_spec hbs hl
          subst e
          rw [hv.int_inv]
          refine ⟨rfl, fun q hq => ?_⟩
          rcases List.mem_cons.1 hq with rfl | hq
          · exact Nat.le_of_ble_eq_true hlt
          · exact hall q hq
        · cases hb
      · cases hb
    · cases hb
theorem bytes_back {bs : List Nat} (hb : ∀ m ∈ bs, m < 256) : (((bs.map fun (m : Nat) => (m : Int)).foldl (fun r n => ByteArray.push r (UInt8.ofNat n.toNat)) ByteArray.empty).data.toList).map UInt8.toNat = bs := by
  have e : (bs.map fun (m : Nat) => (m : Int)) = ((bs.map UInt8.ofNat).map (fun b => (b.toNat : Int))) := by
    rw [List.map_map]
    apply List.map_congr_left
    intro m hm
    have := hb m hm
    simp; omega
  rw [e, foldl_push_byteCells]
  have he0 : ByteArray.empty.data = #[] := rfl
  rw [he0]
  simp only [Array.toList_append, List.nil_append, List.map_map]
  have : (List.map (UInt8.toNat ∘ UInt8.ofNat) bs) = bs := by
    conv => rhs; rw [← List.map_id bs]
    apply List.map_congr_left
    intro m hm
    have := hb m hm
    simp; omega
  simpa using this
theorem tyI_info {t n : Nat} {g : Bool} (ht : tyI P t = some (g, n)) : ∃ i, P.info? t = some i ∧ i.size = n := by
  unfold tyI at ht
  split at ht
  · rename_i d i hd hi
    simp only [Option.some.injEq, Prod.mk.injEq] at ht
    exact ⟨i, hi, ht.2⟩
  · cases ht
theorem convV_ok (hr : HR P w0 r h w) {s d : Nat} {x v : V} {y : Value} (hx : VR r x y) (hc : convV P h s d x = some v) : ∃ u, VR r v u ∧ (convert s d y).run P w = .ok u w := by
  unfold convV at hc
  split at hc
  · rename_i ds k kk n hs hd
    cases hc
    rw [hx.int_inv, wrapF_eq]
    exact ⟨_, .int k _, by simp [convert, run_underlying hs, run_underlying hd, Conv.intToInt]⟩
  · rename_i ds z hs hd
    cases hc
    obtain ⟨q, rfl, hq⟩ := hx.str_inv
    refine ⟨_, .str _ q hq, ?_⟩
    simp [convert, run_underlying hs, run_underlying hd]
  · rename_i t b o hs hd
    split at hc
    · rename_i g n elem rw_ opn size z tt ht hb
      split at hc
      · rename_i hlt
        cases hc
        have hlt := Nat.le_of_ble_eq_true hlt
        obtain ⟨c, rfl, hcat⟩ := hx.ptr_inv
        obtain ⟨cs, fz, h0, _, _, h3, _⟩ := hr.cells hb hcat
        obtain ⟨i, hi, hsz⟩ := tyI_info ht
        refine ⟨_, .ptr b o c _ hcat rfl, Go.Lib.run_to_unsafe w ⟨c, r.sh b + o, none⟩ hs hd hi (by omega) (e := elem) (cells := cs.size) (by simp [World.shape?, h0]) ?_⟩
        show r.sh b + o < cs.size
        omega
      · cases hc
    · cases hc
  · rename_i u b o hs hd
    split at hc
    · rename_i i elem rw_ size z tt hi hb
      split at hc
      · rename_i hl
        cases hc
        obtain ⟨c, rfl, hcat⟩ := hx.ptr_inv
        obtain ⟨cs, fz, h0, _, _, _, h4⟩ := hr.cells hb hcat
        obtain ⟨z1, z2⟩ := h4.2 rfl
        refine ⟨_, .ptr b o c _ hcat rfl, Go.Lib.run_from_unsafe w ⟨c, r.sh b + o, none⟩ hs hd hi (e := elem) (cells := cs.size) (by simp [World.shape?, h0]) ?_⟩
        show liesAt P P.depth elem (cs.size / P.cellsOf elem) (r.sh b + o) u 1 = true
        rw [z1, z2, Nat.zero_add]
        exact hl
      · cases hc
    · cases hc
  · rename_i e x' hs hd _
    split at hc
    · rename_i he
      split at hc
      · cases hc
        rw [hx.nils_inv]
        refine ⟨_, .str [] .empty (by simp), ?_⟩
        simp [convert, run_underlying hs, run_underlying hd, run_underlying he, Conv.bytesToString]
      · rename_i b off len cap _
        split at hc
        · rename_i l hl
          split at hc
          · rename_i bs hbs
            cases hc
            obtain ⟨c, m, rfl, hcat, _⟩ := hx.sl_inv
            obtain ⟨xs, hv, hn, hrun⟩ := loadN_ok hr hcat hl
            obtain ⟨e1, e2⟩ := bytesOf_spec hbs hv
            refine ⟨_, .str _ _ (bytes_back e2), ?_⟩
            have := run_bytesToString (P := P) w ⟨c, r.sh b + off, none⟩ len m (bs.map fun (m : Nat) => (m : Int)) (by rw [hrun, e1]; simp)
            simp [convert, run_underlying hs, run_underlying hd, run_underlying he, this]
          · cases hc
        · cases hc
      · cases hc
    · cases hc
  · cases hc
theorem getObj_run {c : Nat} {o : Obj} (ho : w.heap[c]? = some o) (hn : ∀ cs e f, o ≠ .cells cs e f) : (getObj c).run P w = .ok o w := by
  cases o <;> first | (simp [getObj, Sem.run, ho]; done) | exact absurd rfl (hn _ _ _)
theorem ERs.length : ∀ {es : List (V × V × Nat)} {xs : List MapEntry}, ERs r es xs → es.length = xs.length
  | _, _, .nil => rfl
  | _, _, .cons _ _ _ _ _ _ _ _ _ h => by simp [ERs.length h]
theorem HR.map (hr : HR P w0 r h w) {b c clock : Nat} {es : List (V × V × Nat)} (hb : h.t.get b = some (.map es clock)) (hc : r.at_ b = some c) : ∃ xs, w.heap[c]? = some (.map xs clock) ∧ ERs r es xs.toList := by
  obtain ⟨c', hc', hO, _⟩ := hr.ob b _ hb rfl _ hc
  obtain rfl : c' = c := by rw [hc] at hc'; exact (Option.some.inj hc').symm
  exact hO
theorem lenV_ok (hr : HR P w0 r h w) {t ty : Nat} {x v : V} {y : Value} {ts : List Nat} {ys : List Value} (hx : VR r x y) (hl : lenV P h t x = some v) : ∃ u, VR r v u ∧ (Builtin.len_ ⟨t :: ts⟩ ty ⟨y :: ys⟩).run P w = .ok u w := by
  unfold lenV at hl
  split at hl
  · rename_i s hu
    cases hl
    obtain ⟨q, rfl, hq⟩ := hx.str_inv
    refine ⟨_, .int _ _, ?_⟩
    rw [← hq, size_data]
    simp [Builtin.len_, run_underlying hu, goInt]
  · rename_i n e hu
    cases hl
    exact ⟨_, .int _ _, by simp [Builtin.len_, run_underlying hu, goInt]⟩
  · rename_i e hu
    cases hl
    rw [hx.nils_inv]
    exact ⟨_, .int _ _, by simp [Builtin.len_, run_underlying hu, goInt]⟩
  · rename_i e hu
    cases hl
    obtain ⟨_, m, a, rfl, _⟩ := hx.emp_inv
    exact ⟨_, .int _ _, by simp [Builtin.len_, run_underlying hu, goInt]⟩
  · rename_i e b o n cap hu
    cases hl
    obtain ⟨c, m, rfl, _, _⟩ := hx.sl_inv
    exact ⟨_, .int _ _, by simp [Builtin.len_, run_underlying hu, goInt]⟩
  · rename_i k e hu
    cases hl
    rw [hx.nilm_inv]
    exact ⟨_, .int _ _, by simp [Builtin.len_, run_underlying hu, goInt]⟩
  · rename_i k e b hu
    split at hl
    · rename_i es clock hb
      cases hl
      obtain ⟨c, rfl, hc⟩ := hx.map_inv
      obtain ⟨xs, h0, h1⟩ := hr.map hb hc
      refine ⟨_, .int _ _, ?_⟩
      have hg := getObj_run (P := P) h0 (by intros; simp)
      rw [h1.length]
      simp [Builtin.len_, run_underlying hu, hg, goInt]
    · cases hl
  · cases hl

-- maps
theorem plainKey_spec {kt : Nat} {key : V} {x : Value} (hk : plainKey P kt key = true) (hx : VR r key x) :
    ∃ d, P.underlying kt = some d ∧ MapKept.IsKey d x ∧ ((d = .string ∧ ∃ s, key = .str s) ∨ ∃ i k n, d = .int i ∧ key = .int k n) := by
  unfold plainKey at hk
  split at hk
  · rename_i s hu
    obtain ⟨q, rfl, _⟩ := hx.str_inv
    exact ⟨_, hu, trivial, .inl ⟨rfl, s, rfl⟩⟩
  · rename_i i k n hu
    rw [hx.int_inv]
    exact ⟨_, hu, kindEq_eq hk, .inr ⟨i, k, n, rfl, rfl⟩⟩
  · cases hk
theorem keyEq_ok {d : TypeDesc} {key k : V} {x y : Value} {b : Bool} (hd : (d = .string ∧ ∃ s, key = .str s) ∨ ∃ i k n, d = .int i ∧ key = .int k n) (hx : VR r key x) (hy : VR r k y) (he : keyEq key k = some b) :
    Instr.sameNow d x y = some b ∧ (b = true → Instr.sameBits 10000 y x = true) := by
  rcases hd with ⟨rfl, s, rfl⟩ | ⟨i, kk, n, rfl, rfl⟩
  · obtain ⟨q, rfl, hq⟩ := hx.str_inv
    unfold keyEq at he
    split at he
    · rename_i h; cases h
    · rename_i s1 s2 h
      cases h
      cases he
      obtain ⟨q', rfl, hq'⟩ := hy.str_inv
      rw [← hq, ← hq', leqL_bytes]
      refine ⟨by simp [Instr.sameNow, beq_toListBytes], fun h => ?_⟩
      have e : (q' == q) = true := by rw [beq_toListBytes]; rw [beq_iff_eq] at h ⊢; exact h.symm
      simp [Instr.sameBits, e]
    · cases he
  · rw [hx.int_inv]
    unfold keyEq at he
    split at he
    · rename_i k1 a j b' h
      cases h
      rw [hy.int_inv]
      split at he
      · rename_i hk
        cases he
        have := kindEq_eq hk; subst this
        rw [eqF_eq]
        refine ⟨by simp [Instr.sameNow], fun h => ?_⟩
        rw [beq_iff_eq] at h; subst h
        simp [Instr.sameBits]
      · cases he
    · rename_i h; cases h
    · cases he
theorem kfind_ok {d : TypeDesc} {key : V} {x : Value} (hd : (d = .string ∧ ∃ s, key = .str s) ∨ ∃ i k n, d = .int i ∧ key = .int k n) (hx : VR r key x) : ∀ {es : List (V × V × Nat)} {xs : List MapEntry} (i : Nat) {res : Option (Nat × V)},
    ERs r es xs → kfind key es i = some res → (res = none ∧ Instr.findNow d x xs i = some none) ∨
      ∃ j v u e, res = some (j, v) ∧ VR r v u ∧ Instr.findNow d x xs i = some (some (j, u)) ∧ i ≤ j ∧ xs[j - i]? = some e ∧ Instr.sameBits 10000 e.key x = true
  | _, _, i, res, .nil, hf => by cases hf; exact .inl ⟨rfl, rfl⟩
  | _, _, i, res, .cons k v b y z es xs hk hv h, hf => by
    unfold kfind at hf
    dsimp only at hf
    cases he : keyEq key k with
    | none => rw [he] at hf; cases hf
    | some bb =>
      rw [he] at hf
      obtain ⟨h1, h2⟩ := keyEq_ok hd hx hk he
      cases bb with
      | true =>
        cases hf
        exact .inr ⟨i, v, z, ⟨y, z, b⟩, rfl, hv, by simp [Instr.findNow, h1], Nat.le_refl _, by simp, h2 rfl⟩
      | false =>
        rcases kfind_ok hd hx (i + 1) h hf with ⟨e1, e2⟩ | ⟨j, v', u, e, e1, e2, e3, e4, e5, e6⟩
        · exact .inl ⟨e1, by simp [Instr.findNow, h1, e2]⟩
        · refine .inr ⟨j, v', u, e, e1, e2, by simp [Instr.findNow, h1, e3], by omega, ?_, e6⟩
          obtain ⟨q, hq⟩ : ∃ q, j - i = q + 1 := ⟨j - i - 1, by omega⟩
          rw [hq, List.getElem?_cons_succ, ← e5]; congr 1; omega
theorem mapEs_ok (hr : HR P w0 r h w) {m : V} {y : Value} {es : List (V × V × Nat)} (hx : VR r m y) (hm : mapEs h m = some es) :
    (∃ xs : List MapEntry, ERs r es xs ∧ ((y = .map none ∧ xs = []) ∨ ∃ c clock, y = .map (some c) ∧ w.heap[c]? = some (.map ⟨xs⟩ clock))) := by
  unfold mapEs at hm
  split at hm
  · cases hm; exact ⟨[], .nil, .inl ⟨hx.nilm_inv, rfl⟩⟩
  · rename_i b
    split at hm
    · rename_i es' clock hb
      cases hm
      obtain ⟨c, rfl, hc⟩ := hx.map_inv
      obtain ⟨xs, h0, h1⟩ := hr.map hb hc
      exact ⟨xs.toList, h1, .inr ⟨c, clock, rfl, h0⟩⟩
    · cases hm
  · cases hm
theorem lookV_ok (hr : HR P w0 r h w) {t : Nat} {m key v : V} {ym yk : Value} {ok : Bool} (hm : VR r m ym) (hk : VR r key yk) (hl : lookV P h t m key ok = some v) :
    ∃ u, VR r v u ∧ (Instr.lookup t ym yk ok).run P w = .ok u w := by
  unfold lookV at hl
  split at hl
  · rename_i kt et hu
    split at hl
    · cases hl
    rename_i hpk
    obtain ⟨d, hd, hkey, hshape⟩ := plainKey_spec hpk hk
    split at hl
    · cases hl
    rename_i es hes
    obtain ⟨xs, hE, hy⟩ := mapEs_ok hr hm hes
    have hck : ∀ e, (Instr.checkKey e 10000 kt yk).run P w = .ok () w := fun e => MapKept.run_checkKey hd hkey e 9999
    have hsome : ∀ j u, Instr.findNow d yk xs 0 = some (some (j, u)) → (Instr.lookup t ym yk ok).run P w = .ok (if ok then .tuple #[u, .bool true] else u) w := by
      intro j u hres
      have hfk := MapKept.run_findKey (P := P) (w := w) hd hres
      rcases hy with ⟨rfl, rfl⟩ | ⟨c, clock, rfl, h0⟩
      · simp [Instr.findNow] at hres
      · have hg := getObj_run (P := P) h0 (by intros; simp)
        simp [Instr.lookup, run_underlying hu, hg, hck, hfk, Result.andThen]
    have hnone : ∀ z, (zeroValue et).run P w = .ok z w → Instr.findNow d yk xs 0 = some none → (Instr.lookup t ym yk ok).run P w = .ok (if ok then .tuple #[z, .bool false] else z) w := by
      intro z hz hres
      have hfk := MapKept.run_findKey (P := P) (w := w) hd hres
      rcases hy with ⟨rfl, rfl⟩ | ⟨c, clock, rfl, h0⟩
      · simp [Instr.lookup, run_underlying hu, hck, hfk, Result.andThen, hz]
      · have hg := getObj_run (P := P) h0 (by intros; simp)
        simp [Instr.lookup, run_underlying hu, hg, hck, hfk, Result.andThen, hz]
    split at hl
    · cases hl
    · rename_i j u hf
      cases hl
      rcases kfind_ok hshape hk 0 hE hf with ⟨e1, _⟩ | ⟨j', v', u', e, e1, e2, e3, _⟩
      · cases e1
      · cases e1
        refine ⟨_, ?_, hsome _ _ e3⟩
        · cases ok
          · exact e2
          · exact .tup _ [u', .bool true] (.cons _ _ _ _ e2 (.cons _ _ _ _ (.bool true) .nil))
    · rename_i hf
      split at hl
      · cases hl
      · rename_i z hz
        cases hl
        rcases kfind_ok hshape hk 0 hE hf with ⟨_, e1⟩ | ⟨j', v', u', e, e1, _⟩
        · obtain ⟨i, zv, hi, hzv, hvr, _⟩ := zeroV_spec (r := r) hz
          refine ⟨if ok then .tuple #[zv, .bool false] else zv, ?_, ?_⟩
          · cases ok
            · exact hvr
            · exact .tup _ [zv, .bool false] (.cons _ _ _ _ hvr (.cons _ _ _ _ (.bool false) .nil))
          · exact hnone _ (run_zeroValue hi hzv w) e1
        · cases e1
  · cases hl
end ops
end
end Go.Ev
/- The step machine: what an operation that only reads gives, all of them. -/
namespace Go.Ev
open Go Go.RowKit
noncomputable section
section ops
variable {P : Program} {w0 : Base} {w : World} {r : Ren} {h : H} {tm : Nat → Option V} {ρ : Operand → Value}

theorem least_some {l : List String} (h : l ≠ []) : ∃ m, Instr.least l = some m := by
  cases l with
  | nil => exact absurd rfl h
  | cons a r => exact ⟨_, rfl⟩
theorem missing_none {want : Array (String × Nat)} {got : Array Method} (h : hasAll want got = true) : Instr.missingMethod want got = none := by
  have e : (want.toList.filter fun (x : String × Nat) => !got.any fun m => m.name == x.1 && m.sig == x.2) = [] := by
    rw [List.filter_eq_nil_iff]
    intro a ha
    have := List.all_eq_true.1 h a ha
    simp only [Bool.not_eq_true, Bool.not_eq_false']
    exact this
  unfold Instr.missingMethod
  have e2 : (want.toList.filter fun (x : String × Nat) => match x with | (name, sig) => !got.any fun m => m.name == name && m.sig == sig) = [] := e
  rw [e2]
  rfl
theorem missing_some {want : Array (String × Nat)} {got : Array Method} (h : hasAll want got = false) : ∃ m, Instr.missingMethod want got = some m := by
  obtain ⟨a, ha, hn⟩ : ∃ a ∈ want.toList, (got.any fun m => m.name == a.1 && m.sig == a.2) = false := by
    have := List.all_eq_false.1 h
    obtain ⟨a, ha, hn⟩ := this
    exact ⟨a, ha, by simpa using hn⟩
  unfold Instr.missingMethod
  have hne : ((want.toList.filter fun (x : String × Nat) => match x with | (name, sig) => !got.any fun m => m.name == name && m.sig == sig).map (·.1)) ≠ [] := by
    intro he
    rw [List.map_eq_nil_iff, List.filter_eq_nil_iff] at he
    have := he a ha
    obtain ⟨n, s⟩ := a
    simp only at hn this
    rw [hn] at this
    simp at this
  generalize ((want.toList.filter fun (x : String × Nat) => match x with | (name, sig) => !got.any fun m => m.name == name && m.sig == sig).map (·.1)) = l at hne
  obtain ⟨b, r, rfl⟩ := List.exists_cons_of_ne_nil hne
  cases hb : b.contains '.' with
  | true =>
    obtain ⟨q, hq⟩ : ∃ q, (List.partition (fun (x : String) => x.contains '.') (b :: r)).1 = b :: q := by
      rw [List.partition_eq_filter_filter]; exact ⟨_, List.filter_cons_of_pos (p := fun (x : String) => x.contains '.') (l := r) hb⟩
    simp only [hq, List.map_cons]
    cases Instr.least (List.partition (fun (x : String) => x.contains '.') (b :: r)).2 with
    | some m => exact ⟨m, rfl⟩
    | none => obtain ⟨m, hm⟩ := least_some (l := ((fun id => (id.splitOn ".").getLastD id) b) :: q.map fun id => (id.splitOn ".").getLastD id) (by simp); exact ⟨m, hm⟩
  | false =>
    obtain ⟨q, hq⟩ : ∃ q, (List.partition (fun (x : String) => x.contains '.') (b :: r)).2 = b :: q := by
      rw [List.partition_eq_filter_filter]; exact ⟨_, List.filter_cons_of_pos (p := not ∘ fun (x : String) => x.contains '.') (l := r) (by simp only [Function.comp, hb]; rfl)⟩
    simp only [hq]
    obtain ⟨m, hm⟩ := least_some (l := b :: q) (by simp)
    exact ⟨m, by rw [hm]; rfl⟩
theorem assertV_ok {xt at_ : Nat} {x v : V} {y : Value} {ok : Bool} (hx : VR r x y) (ha : assertV P x at_ ok = some v) : ∃ u, VR r v u ∧ (Instr.typeAssert y xt at_ ok).run P w = .ok u w := by
  have hpair : ∀ {a : V} {b : Value} (t : Bool), VR r a b → VR r (.tup [a, .bool t]) (.tuple #[b, .bool t]) := fun t hv => .tup _ [_, _] (.cons _ _ _ _ hv (.cons _ _ _ _ (.bool t) .nil))
  unfold assertV at ha
  split at ha
  · cases ha
  · rename_i want hu
    split at ha
    · rename_i t u
      split at ha
      · rename_i i hi
        split at ha
        · rename_i hm
          have hm := missing_none hm
          cases ha
          obtain ⟨z, rfl, hz⟩ := hx.iface_inv
          cases ok
          · exact ⟨_, .iface t _ _ hz, by simp [Instr.typeAssert, run_underlying hu, typeInfo, hi, hm, Result.andThen]⟩
          · exact ⟨_, hpair true (.iface t _ _ hz), by simp [Instr.typeAssert, run_underlying hu, typeInfo, hi, hm, Result.andThen]⟩
        · rename_i hm
          obtain ⟨m, hm⟩ := missing_some hm
          split at ha
          · split at ha
            · rename_i zv hzv
              cases ha
              obtain ⟨z, rfl, hz⟩ := hx.iface_inv
              obtain ⟨j, q, hj, hq, hvr, _⟩ := zeroV_spec (r := r) hzv
              exact ⟨_, hpair false hvr, by simp [Instr.typeAssert, run_underlying hu, typeInfo, hi, hm, Result.andThen, run_zeroValue hj hq]⟩
            · cases ha
          · cases ha
      · cases ha
    · split at ha
      · split at ha
        · rename_i zv hzv
          cases ha
          rw [hx.nilIface_inv]
          obtain ⟨i, q, hi, hq, hvr, _⟩ := zeroV_spec (r := r) hzv
          exact ⟨_, hpair false hvr, by simp [Instr.typeAssert, run_underlying hu, Result.andThen, run_zeroValue hi hq]⟩
        · cases ha
      · cases ha
    · cases ha
  · rename_i d hni hu
    have hd : ∀ ms, d ≠ .interface ms := fun ms e => hni ms e
    split at ha
    · rename_i t u
      obtain ⟨z, rfl, hz⟩ := hx.iface_inv
      split at ha
      · rename_i hb
        cases ha
        have := Nat.eq_of_beq_eq_true hb; subst this
        refine ⟨if ok then .tuple #[z, .bool true] else z, ?_, ?_⟩
        · cases ok
          · exact hz
          · exact hpair true hz
        · cases d <;> first | exact absurd rfl (hd _) | (cases ok <;> simp [Instr.typeAssert, run_underlying hu, Result.andThen])
      · rename_i hb
        have hne := Nat.ne_of_beq_eq_false hb
        split at ha
        · split at ha
          · rename_i zv hzv
            cases ha
            obtain ⟨i, q, hi, hq, hvr, _⟩ := zeroV_spec (r := r) hzv
            refine ⟨_, hpair false hvr, ?_⟩
            cases d <;> first | exact absurd rfl (hd _) | simp [Instr.typeAssert, run_underlying hu, Result.andThen, hne, run_zeroValue hi hq]
          · cases ha
        · cases ha
    · split at ha
      · split at ha
        · rename_i zv hzv
          cases ha
          rw [hx.nilIface_inv]
          obtain ⟨i, q, hi, hq, hvr, _⟩ := zeroV_spec (r := r) hzv
          refine ⟨_, hpair false hvr, ?_⟩
          cases d <;> first | exact absurd rfl (hd _) | simp [Instr.typeAssert, run_underlying hu, Result.andThen, run_zeroValue hi hq]
        · cases ha
      · cases ha
    · cases ha
theorem cellEqT_ok {t : Nat} {a b : V} {u v : Value} {q : Bool} (hc : cellEqT P t a b = some q) (hu : VR r a u) (hv : VR r b v) (d : Nat) (w : World) :
    (isAgg t).run P w = .ok false w ∧ (Op.equalIn (d + 1) t u v).run P w = .ok q w := by
  unfold cellEqT at hc
  split at hc
  · rename_i x y ht
    cases hc
    rw [hu.bool_inv, hv.bool_inv]
    exact ⟨by simp [isAgg, run_underlying ht, Result.andThen], run_equalIn_bool' w d t _ _ ht⟩
  · rename_i k x j y ht
    split at hc
    · rename_i hk
      cases hc
      have := kindEq_eq hk; subst this
      rw [hu.int_inv, hv.int_inv, eqF_eq]
      exact ⟨by simp [isAgg, run_underlying ht, Result.andThen], run_equalIn_int w d t _ _ _ _ ht⟩
    · cases hc
  · rename_i x y ht
    cases hc
    obtain ⟨p, rfl, hp⟩ := hu.str_inv
    obtain ⟨q, rfl, hq⟩ := hv.str_inv
    rw [← hp, ← hq, leqL_bytes]
    exact ⟨by simp [isAgg, run_underlying ht, Result.andThen], run_equalIn_string w d t _ _ ht⟩
  · cases hc
theorem VRs.drop_at {l : List V} {xs : List Value} (h : VRs r l xs) {i : Nat} {a : V} {x : List V} (e : l.drop i = a :: x) : ∃ u, xs[i]? = some u ∧ VR r a u ∧ l.drop (i + 1) = x := by
  have h1 : l[i]? = some a := by
    have : (l.drop i)[0]? = some a := by rw [e]; rfl
    simpa using this
  obtain ⟨u, hu, hv⟩ := h.get h1
  refine ⟨u, hu, hv, ?_⟩
  have : (l.drop i).drop 1 = x := by rw [e]; rfl
  rw [List.drop_drop] at this
  exact this
theorem eqFs_ok {l m : List V} {xs ys : List Value} (hx : VRs r l xs) (hy : VRs r m ys) (w : World) : ∀ (fs : List Field) (i : Nat) (x y : List V) (b : Bool), l.drop i = x → m.drop i = y →
    eqFs P fs i x y = some b → (Op.eqFields 9999 ⟨xs⟩ ⟨ys⟩ fs).run P w = .ok b w
  | [], i, x, y, b, _, _, hc => by
    cases x <;> cases y <;> simp only [eqFs, Option.some.injEq, reduceCtorEq] at hc
    subst hc; rfl
  | f :: fs, i, x, y, b, h1, h2, hc => by
    cases x with
    | nil => cases y <;> simp [eqFs] at hc
    | cons a x' =>
    cases y with
    | nil => simp [eqFs] at hc
    | cons c y' =>
      simp only [eqFs] at hc
      split at hc
      · rename_i hcond
        simp only [Bool.and_eq_true, bne_iff_ne, ne_eq] at hcond
        have ho := Nat.eq_of_beq_eq_true hcond.1
        obtain ⟨u, hu, hau, h1'⟩ := hx.drop_at h1
        obtain ⟨v, hv, hcv, h2'⟩ := hy.drop_at h2
        split at hc
        · rename_i hq
          obtain ⟨hag, heq⟩ := cellEqT_ok hq hau hcv 9998 w
          have hp1 : (Go.part f.type ⟨xs⟩ f.offset).run P w = .ok u w := by simp [Go.part, hag, ho, hu, Result.andThen]
          have hp2 : (Go.part f.type ⟨ys⟩ f.offset).run P w = .ok v w := by simp [Go.part, hag, ho, hv, Result.andThen]
          have := eqFs_ok hx hy w fs (i + 1) _ _ b h1' h2' hc
          simp [Op.eqFields, hcond.2, hp1, hp2, heq, Result.andThen, this]
        · rename_i hq
          cases hc
          obtain ⟨hag, heq⟩ := cellEqT_ok hq hau hcv 9998 w
          have hp1 : (Go.part f.type ⟨xs⟩ f.offset).run P w = .ok u w := by simp [Go.part, hag, ho, hu, Result.andThen]
          have hp2 : (Go.part f.type ⟨ys⟩ f.offset).run P w = .ok v w := by simp [Go.part, hag, ho, hv, Result.andThen]
          simp [Op.eqFields, hcond.2, hp1, hp2, heq, Result.andThen]
        · cases hc
      · cases hc
theorem guardNil (xo yo : Operand) (h : (isConst xo || isConst yo) = true) (t : Nat) (op : BinOp) : (eqGuard op t xo yo .nilIface .nilIface).run P w = .ok () w := by
  cases op <;> cases xo <;> cases yo <;> simp [isConst] at h <;> simp [eqGuard]
theorem eq_fin {t : Nat} {X Y : Value} {b : Bool} {op : BinOp} (hop : op = .eql ∨ op = .neq) (hE : ∀ d, (Op.equalIn (d + 1) t X Y).run P w = .ok b w) (h1 : binOp .eql t X Y = do pure (.bool (← Op.equal t X Y)))
    (h2 : binOp .neq t X Y = do pure (.bool (!(← Op.equal t X Y)))) : (binOp op t X Y).run P w = .ok (.bool (if op = .eql then b else !b)) w := by
  have hE' : (Op.equal t X Y).run P w = .ok b w := hE 9999
  rcases hop with rfl | rfl
  · rw [h1]; simp [hE', Result.andThen]
  · rw [h2]; simp [hE', Result.andThen]
theorem eq_fin2 {t : Nat} {X Y : Value} {b : Bool} {op : BinOp} (hop : op = .eql ∨ op = .neq) (hE : ∀ d, (Op.equalIn (d + 2) t X Y).run P w = .ok b w) (h1 : binOp .eql t X Y = do pure (.bool (← Op.equal t X Y)))
    (h2 : binOp .neq t X Y = do pure (.bool (!(← Op.equal t X Y)))) : (binOp op t X Y).run P w = .ok (.bool (if op = .eql then b else !b)) w := by
  have hE' : (Op.equal t X Y).run P w = .ok b w := hE 9998
  rcases hop with rfl | rfl
  · rw [h1]; simp [hE', Result.andThen]
  · rw [h2]; simp [hE', Result.andThen]
theorem sameAddr_other {a b : Addr} {ca cb : Array Value} {ta tb : TypeId} {fa fb : Nat × Nat} (hbl : a.block ≠ b.block) (ha : w.heap[a.block]? = some (.cells ca ta fa)) (hb : w.heap[b.block]? = some (.cells cb tb fb))
    (hfa : ∀ i, ¬ (fa.1 ≤ i ∧ i < fa.2)) (hfb : ∀ i, ¬ (fb.1 ≤ i ∧ i < fb.2)) : (sameAddr a b).run P w = .ok false w := by
  obtain ⟨la, ha'⟩ := fa
  obtain ⟨lb, hb'⟩ := fb
  have f1 : ∀ o, (decide (la ≤ o) && decide (o < ha')) = false := fun o => by
    have := hfa o
    rw [Bool.and_eq_false_iff]
    by_cases h : la ≤ o
    · exact .inr (by simp only [decide_eq_false_iff_not]; exact fun h2 => this ⟨h, h2⟩)
    · exact .inl (by simpa using h)
  have f2 : ∀ o, (decide (lb ≤ o) && decide (o < hb')) = false := fun o => by
    have := hfb o
    rw [Bool.and_eq_false_iff]
    by_cases h : lb ≤ o
    · exact .inr (by simp only [decide_eq_false_iff_not]; exact fun h2 => this ⟨h, h2⟩)
    · exact .inl (by simpa using h)
  simp only [sameAddr, beq_eq_false_iff_ne.2 hbl]
  simp [World.frozen?, ha, hb, noView, viewAt, World.shape?, mayBeOne, stringish, f1, f2]
theorem isFar_spec {b : Nat} (h : isFar b = true) : 500 ≤ b ∧ b < 1000 := by
  unfold isFar at h
  rw [Bool.and_eq_true] at h
  exact ⟨Nat.le_of_ble_eq_true h.1, Nat.le_of_ble_eq_true h.2⟩
theorem farEq_ok (hr : HR P w0 r h w) {b c cb cc : Nat} {q : Bool} (hq : farEq b c = some q) (hb : r.at_ b = some cb) (hc : r.at_ c = some cc) : (sameAddr ⟨cb, r.cap b, none⟩ ⟨cc, r.cap c, none⟩).run P w = .ok q w := by
  unfold farEq at hq
  split at hq
  · rename_i he
    have := Nat.eq_of_beq_eq_true he; subst this
    rw [hb] at hc; cases hc
    cases hq
    simp [sameAddr]
  · rename_i he
    split at hq
    · rename_i hu
      cases hq
      rw [Bool.and_eq_true] at hu
      obtain ⟨b1, b2⟩ := isFar_spec hu.1
      obtain ⟨c1, c2⟩ := isFar_spec hu.2
      have f1 := hr.fars b cb b1 b2 hb
      have f2 := hr.fars c cc c1 c2 hc
      obtain ⟨l1, cs1, e1, k1⟩ := hr.farok.cells b _ f1
      obtain ⟨l2, cs2, e2, k2⟩ := hr.farok.cells c _ f2
      have hne : (cb, r.cap b) ≠ (cc, r.cap c) := fun e => by
        rw [e] at f1
        have := hr.farok.inj b c _ f1 f2
        subst this
        rw [Nat.beq_refl] at he; cases he
      by_cases hbl : cb = cc
      · have hof : r.cap b ≠ r.cap c := fun e => hne (by rw [hbl, e])
        have e : ((⟨cb, r.cap b, none⟩ : Addr) == ⟨cb, r.cap c, none⟩) = false := by
          rw [beq_eq_false_iff_ne]; exact fun e => hof (by injection e)
        subst hbl
        simp [sameAddr, e]
      · exact sameAddr_other (a := ⟨cb, r.cap b, none⟩) (b := ⟨cc, r.cap c, none⟩) (fa := (0, 0)) (fb := (0, 0)) hbl (by rw [hr.below.block _ l1]; exact k1) (by rw [hr.below.block _ l2]; exact k2) (fun i => by simp) (fun i => by simp)
    · cases hq
theorem ptrEq_ok {b o c p cb cc : Nat} {q : Bool} (hq : ptrEq b o c p = some q) (hb : r.at_ b = some cb) (hc : r.at_ c = some cc) : (sameAddr ⟨cb, r.sh b + o, none⟩ ⟨cc, r.sh c + p, none⟩).run P w = .ok q w := by
  unfold ptrEq at hq
  split at hq
  · rename_i he
    have := Nat.eq_of_beq_eq_true he; subst this
    rw [hb] at hc; cases hc
    cases hq
    have e : ((⟨cb, r.sh b + o, none⟩ : Addr) == ⟨cb, r.sh b + p, none⟩) = Nat.beq o p := by
      by_cases h : o = p
      · subst h; rw [Nat.beq_refl]; exact beq_self_eq_true _
      · have h1 : Nat.beq o p = false := by
          cases hh : Nat.beq o p with
          | false => rfl
          | true => exact absurd (Nat.eq_of_beq_eq_true hh) h
        rw [h1, beq_eq_false_iff_ne]
        exact fun e => h (by injection e with _ e; omega)
    simp [sameAddr, e]
  · cases hq
theorem eqI_ok (hr : HR P w0 r h w) {t : Nat} {x y : V} {X Y : Value} {b : Bool} (hx : VR r x X) (hy : VR r y Y) (he : eqI P t x y = some b) (d : Nat) : (Op.equalIn (d + 1) t X Y).run P w = .ok b w := by
  unfold eqI at he
  split at he
  · rename_i e b' o c p hu
    split at he
    · rename_i g m ht
      obtain ⟨k, rfl, hk⟩ := hx.ptr_inv
      obtain ⟨l, rfl, hl⟩ := hy.ptr_inv
      have hsz := (tyI_spec ht).2.1 w
      have := ptrEq_ok (P := P) (w := w) he hk hl
      simp [Op.equalIn, run_underlying hu, hsz, Result.andThen, this]
    · cases he
  · rename_i e b' c hu
    split at he
    · rename_i g m ht
      obtain ⟨k, rfl, hk⟩ := hx.far_inv
      obtain ⟨l, rfl, hl⟩ := hy.far_inv
      have hsz := (tyI_spec ht).2.1 w
      have := farEq_ok hr he hk hl
      simp [Op.equalIn, run_underlying hu, hsz, Result.andThen, this]
    · cases he
  · exact (cellEqT_ok he hx hy d w).2
set_option maxHeartbeats 3200000 in
theorem eqV_ok (hr : HR P w0 r h w) {t : Nat} {x y : V} {X Y : Value} {xo yo : Operand} {b : Bool} (hx : VR r x X) (hy : VR r y Y) (he : eqV P t x y (isConst xo || isConst yo) = some b) (op : BinOp) (hop : op = .eql ∨ op = .neq) :
    (eqGuard op t xo yo X Y).run P w = .ok () w ∧ (binOp op t X Y).run P w = .ok (.bool (if op = .eql then b else !b)) w := by
  unfold eqV at he
  split at he
  · rename_i e b' o c p hu
    split at he
    · rename_i g m ht
      obtain ⟨k, rfl, hk⟩ := hx.ptr_inv
      obtain ⟨l, rfl, hl⟩ := hy.ptr_inv
      have hsz := (tyI_spec ht).2.1 w
      have := ptrEq_ok (P := P) (w := w) he hk hl
      exact ⟨by rcases hop with rfl | rfl <;> simp [eqGuard], eq_fin hop (fun d => by simp [Op.equalIn, run_underlying hu, hsz, Result.andThen, this]) rfl rfl⟩
    · cases he
  · rename_i e b' c hu
    split at he
    · rename_i g m ht
      obtain ⟨k, rfl, hk⟩ := hx.far_inv
      obtain ⟨l, rfl, hl⟩ := hy.far_inv
      have hsz := (tyI_spec ht).2.1 w
      have := farEq_ok hr he hk hl
      exact ⟨by rcases hop with rfl | rfl <;> simp [eqGuard], eq_fin hop (fun d => by simp [Op.equalIn, run_underlying hu, hsz, Result.andThen, this]) rfl rfl⟩
    · cases he
  · rename_i ms t1 v1 t2 v2 hu
    obtain ⟨p, rfl, hp⟩ := hx.iface_inv
    obtain ⟨q, rfl, hq⟩ := hy.iface_inv
    refine ⟨by rcases hop with rfl | rfl <;> simp [eqGuard], ?_⟩
    split at he
    · rename_i hne
      cases he
      have hne : t1 ≠ t2 := fun e => by subst e; rw [Nat.beq_refl] at hne; cases hne
      exact eq_fin2 hop (fun d => by simp [Op.equalIn, run_underlying hu, hne, Result.andThen]) rfl rfl
    · rename_i heq
      have heq := Nat.eq_of_beq_eq_true heq; subst heq
      split at he
      · rename_i i hi
        split at he
        · rename_i hcmp
          refine eq_fin2 hop (fun d => ?_) rfl rfl
          have := eqI_ok hr hp hq he d
          rw [Op.equalIn]
          simp only [Sem.run_bind, run_underlying hu, Result.andThen_ok, ne_eq, not_true_eq_false, if_false, typeInfo]
          simp [Result.andThen, hi, hcmp, this]
        · cases he
      · cases he
  · rename_i a c hu
    cases he
    rw [hx.bool_inv, hy.bool_inv]
    exact ⟨by rcases hop with rfl | rfl <;> simp [eqGuard], eq_fin hop (fun d => by simp [Op.equalIn, run_underlying hu, Result.andThen]) rfl rfl⟩
  · rename_i e hu
    cases he
    rw [hx.nilp_inv, hy.nilp_inv]
    exact ⟨by rcases hop with rfl | rfl <;> simp [eqGuard], eq_fin hop (fun d => by simp [Op.equalIn, run_underlying hu, Result.andThen]) rfl rfl⟩
  · rename_i e c o hu
    cases he
    obtain ⟨k, rfl, _⟩ := hy.ptr_inv
    rw [hx.nilp_inv]
    exact ⟨by rcases hop with rfl | rfl <;> simp [eqGuard], eq_fin hop (fun d => by simp [Op.equalIn, run_underlying hu, Result.andThen]) rfl rfl⟩
  · rename_i e c hu
    cases he
    obtain ⟨k, rfl, _⟩ := hy.far_inv
    rw [hx.nilp_inv]
    exact ⟨by rcases hop with rfl | rfl <;> simp [eqGuard], eq_fin hop (fun d => by simp [Op.equalIn, run_underlying hu, Result.andThen]) rfl rfl⟩
  · rename_i e c hu
    cases he
    obtain ⟨k, rfl, _⟩ := hx.far_inv
    rw [hy.nilp_inv]
    exact ⟨by rcases hop with rfl | rfl <;> simp [eqGuard], eq_fin hop (fun d => by simp [Op.equalIn, run_underlying hu, Result.andThen]) rfl rfl⟩
  · rename_i e c o hu
    cases he
    obtain ⟨k, rfl, _⟩ := hx.ptr_inv
    rw [hy.nilp_inv]
    exact ⟨by rcases hop with rfl | rfl <;> simp [eqGuard], eq_fin hop (fun d => by simp [Op.equalIn, run_underlying hu, Result.andThen]) rfl rfl⟩
  · rename_i ms hu
    split at he
    · rename_i hc
      cases he
      rw [hx.nilIface_inv, hy.nilIface_inv]
      exact ⟨guardNil xo yo hc t op, eq_fin hop (fun d => by simp [Op.equalIn, run_underlying hu, Result.andThen]) rfl rfl⟩
    · cases he
  · rename_i ms tt v hu
    cases he
    obtain ⟨q, rfl, _⟩ := hy.iface_inv
    rw [hx.nilIface_inv]
    exact ⟨by rcases hop with rfl | rfl <;> simp [eqGuard], eq_fin hop (fun d => by simp [Op.equalIn, run_underlying hu, Result.andThen]) rfl rfl⟩
  · rename_i ms tt v hu
    cases he
    obtain ⟨q, rfl, _⟩ := hx.iface_inv
    rw [hy.nilIface_inv]
    exact ⟨by rcases hop with rfl | rfl <;> simp [eqGuard], eq_fin hop (fun d => by simp [Op.equalIn, run_underlying hu, Result.andThen]) rfl rfl⟩
  · rename_i e hu
    cases he
    rw [hx.nils_inv, hy.nils_inv]
    exact ⟨by rcases hop with rfl | rfl <;> simp [eqGuard], eq_fin hop (fun d => by simp [Op.equalIn, run_underlying hu, Result.andThen]) rfl rfl⟩
  · rename_i e c o n cp hu
    cases he
    obtain ⟨k, m, rfl, _⟩ := hy.sl_inv
    rw [hx.nils_inv]
    exact ⟨by rcases hop with rfl | rfl <;> simp [eqGuard], eq_fin hop (fun d => by simp [Op.equalIn, run_underlying hu, Result.andThen]) rfl rfl⟩
  · rename_i e hu
    cases he
    obtain ⟨_, m, k, rfl, _⟩ := hy.emp_inv
    rw [hx.nils_inv]
    exact ⟨by rcases hop with rfl | rfl <;> simp [eqGuard], eq_fin hop (fun d => by simp [Op.equalIn, run_underlying hu, Result.andThen]) rfl rfl⟩
  · rename_i e hu
    cases he
    obtain ⟨_, m, k, rfl, _⟩ := hx.emp_inv
    rw [hy.nils_inv]
    exact ⟨by rcases hop with rfl | rfl <;> simp [eqGuard], eq_fin hop (fun d => by simp [Op.equalIn, run_underlying hu, Result.andThen]) rfl rfl⟩
  · rename_i e c o n cp hu
    cases he
    obtain ⟨k, m, rfl, _⟩ := hx.sl_inv
    rw [hy.nils_inv]
    exact ⟨by rcases hop with rfl | rfl <;> simp [eqGuard], eq_fin hop (fun d => by simp [Op.equalIn, run_underlying hu, Result.andThen]) rfl rfl⟩
  · rename_i e c hu
    cases he
    rw [hx.nilm_inv, hy.nilm_inv]
    exact ⟨by rcases hop with rfl | rfl <;> simp [eqGuard], eq_fin hop (fun d => by simp [Op.equalIn, run_underlying hu, Result.andThen]) rfl rfl⟩
  · rename_i e c b' hu
    cases he
    obtain ⟨k, rfl, _⟩ := hy.map_inv
    rw [hx.nilm_inv]
    exact ⟨by rcases hop with rfl | rfl <;> simp [eqGuard], eq_fin hop (fun d => by simp [Op.equalIn, run_underlying hu, Result.andThen]) rfl rfl⟩
  · rename_i e c b' hu
    cases he
    obtain ⟨k, rfl, _⟩ := hx.map_inv
    rw [hy.nilm_inv]
    exact ⟨by rcases hop with rfl | rfl <;> simp [eqGuard], eq_fin hop (fun d => by simp [Op.equalIn, run_underlying hu, Result.andThen]) rfl rfl⟩
  · rename_i e1 e2 e3 hu
    cases he
    rw [hx.nilFunc_inv, hy.nilFunc_inv]
    exact ⟨by rcases hop with rfl | rfl <;> simp [eqGuard], eq_fin hop (fun d => by simp [Op.equalIn, run_underlying hu, Result.andThen]) rfl rfl⟩
  · rename_i e1 e2 e3 f a c hu
    cases he
    obtain ⟨p, q, rfl, _⟩ := hy.fn_inv
    rw [hx.nilFunc_inv]
    exact ⟨by rcases hop with rfl | rfl <;> simp [eqGuard], eq_fin hop (fun d => by simp [Op.equalIn, run_underlying hu, Result.andThen]) rfl rfl⟩
  · rename_i e1 e2 e3 f a c hu
    cases he
    obtain ⟨p, q, rfl, _⟩ := hx.fn_inv
    rw [hy.nilFunc_inv]
    exact ⟨by rcases hop with rfl | rfl <;> simp [eqGuard], eq_fin hop (fun d => by simp [Op.equalIn, run_underlying hu, Result.andThen]) rfl rfl⟩
  · rename_i fs a c hu
    split at he
    · rename_i hcond
      simp only [Bool.and_eq_true, Bool.not_eq_true'] at hcond
      obtain ⟨p, rfl, hp⟩ := hx.agg_inv
      obtain ⟨q, rfl, hq⟩ := hy.agg_inv
      have hfo : P.fieldsOf t = fs := by simp [Program.fieldsOf, hu]
      have hu' : P.underlying t = some (.struct (P.fieldsOf t)) := by rw [hfo]; exact hu
      have hrun := eqFs_ok (P := P) hp hq w fs.toList 0 a c b (by simp) (by simp) he
      have hE : (Op.equalIn 10000 t (.agg ⟨p⟩) (.agg ⟨q⟩)).run P w = .ok b w := by
        rw [show (10000 : Nat) = 9999 + 1 from rfl, run_equalIn_struct w 9999 t _ _ hu' hcond.1, hfo]; exact hrun
      refine ⟨run_eqGuard_agg w op t xo yo _ _ hcond.2, ?_⟩
      rcases hop with rfl | rfl
      · rw [run_eql_struct, hE]; rfl
      · rw [run_neq_struct, hE]; rfl
    · cases he
  · cases he
end ops
end
end Go.Ev
/- The step machine: every operation that only reads. -/
namespace Go.Ev
open Go Go.RowKit
noncomputable section
section ops
variable {P : Program} {w0 : Base} {w : World} {r : Ren} {h : H} {tm : Nat → Option V} {ρ : Operand → Value}

theorem guardInt (op : BinOp) (t : Nat) (xo yo : Operand) (k j : IntKind) (a b : Int) : (eqGuard op t xo yo (.int k a) (.int j b)).run P w = .ok () w := by cases op <;> simp [eqGuard]
theorem guardStr (op : BinOp) (t : Nat) (xo yo : Operand) (a b : ByteArray) : (eqGuard op t xo yo (.string a) (.string b)).run P w = .ok () w := by cases op <;> simp [eqGuard]
theorem binV_ok (hr : HR P w0 r h w) {op : BinOp} {t : Nat} {x y v : V} {X Y : Value} {xo yo : Operand} (hx : VR r x X) (hy : VR r y Y) (hb : binV P op t xo yo x y = some v) :
    ∃ u, VR r v u ∧ (eqGuard op t xo yo X Y).run P w = .ok () w ∧ (binOp op t X Y).run P w = .ok u w := by
  unfold binV at hb
  split at hb
  · rename_i k a j b
    rw [hx.int_inv, hy.int_inv]
    split at hb
    · split at hb
      · rename_i z hz
        cases hb
        exact ⟨_, .int k z, guardInt _ _ _ _ _ _ _ _, shl_run (j := j) hz⟩
      · cases hb
    · split at hb
      · rename_i z hz
        cases hb
        exact ⟨_, .int k z, guardInt _ _ _ _ _ _ _ _, shr_run (j := j) hz⟩
      · cases hb
    · rename_i hn1 hn2
      split at hb
      · rename_i hk
        have := kindEq_eq hk; subst this
        obtain ⟨u, hu, hrun, ht⟩ := intOp_run (P := P) (w := w) hb ⟨fun e => hn1 e, fun e => hn2 e⟩
        exact ⟨u, hu r, guardInt _ _ _ _ _ _ _ _, by rw [ht t]; exact hrun⟩
      · cases hb
  · rename_i a b
    obtain ⟨p, rfl, hp⟩ := hx.str_inv
    obtain ⟨q, rfl, hq⟩ := hy.str_inv
    subst hp hq
    obtain ⟨u, hu, hrun⟩ := strOp_run (P := P) (w := w) hb
    refine ⟨u, hu r, guardStr _ _ _ _ _ _, ?_⟩
    have e : binOp op t (.string p) (.string q) = Op.stringOp op p q := by cases op <;> rfl
    rw [e]; exact hrun
  · split at hb
    · split at hb
      · rename_i b he
        cases hb
        obtain ⟨h1, h2⟩ := eqV_ok (P := P) (w := w) hr hx hy he .eql (.inl rfl)
        exact ⟨_, .bool b, h1, h2⟩
      · cases hb
    · split at hb
      · rename_i b he
        cases hb
        obtain ⟨h1, h2⟩ := eqV_ok (P := P) (w := w) hr hx hy he .neq (.inr rfl)
        exact ⟨_, .bool (!b), h1, h2⟩
      · cases hb
    · cases hb
theorem lastN_spec : ∀ {l : List Nat} {a : Nat}, lastN l = some a → l.toArray.back? = some a
  | [], _, h => by cases h
  | [b], a, h => by cases h; rfl
  | b :: c :: l, a, h => by
    have := lastN_spec (l := c :: l) h
    simp [Array.back?] at this ⊢
    simpa using this
theorem findStamp_ok {st : Nat} : ∀ {es : List (V × V × Nat)} {xs : List MapEntry} {k v : V}, ERs r es xs → findStamp st es = some (k, v) → ∃ e, xs.find? (·.born == st) = some e ∧ VR r k e.key ∧ VR r v e.val
  | _, _, k, v, .cons k' v' b x y es xs hk hv h, hf => by
    simp only [findStamp] at hf
    split at hf
    · rename_i hb
      cases hf
      have := Nat.eq_of_beq_eq_true hb; subst this
      exact ⟨⟨x, y, b⟩, by simp, hk, hv⟩
    · rename_i hb
      have hne := Nat.ne_of_beq_eq_false hb
      obtain ⟨e, he, h1, h2⟩ := findStamp_ok h hf
      have hb' : (b == st) = false := by simpa using hne
      exact ⟨e, by rw [List.find?_cons]; simp [hb', he], h1, h2⟩
theorem stampsOf_ok : ∀ {es : List (V × V × Nat)} {xs : List MapEntry}, ERs r es xs → xs.map (·.born) = stampsOf es
  | _, _, .nil => rfl
  | _, _, .cons _ _ b _ _ _ _ _ _ h => by simp [stampsOf, stampsOf_ok h]
theorem beq0_ok {a b : V} (hb : beq0 a b = true) : a = b := by
  unfold beq0 at hb
  split at hb
  · rename_i x y; cases x <;> cases y <;> first | rfl | cases hb
  · split at hb
    · rename_i hk; have := kindEq_eq hk; subst this
      rw [eqF_eq, beq_iff_eq] at hb; rw [hb]
    · cases hb
  · rw [leqL_eq, decide_eq_true_eq] at hb; rw [hb]
  · rfl
  · rfl
  · rfl
  · rfl
  · rfl
  · split at hb
    · rename_i h1; rw [Nat.eq_of_beq_eq_true h1, Nat.eq_of_beq_eq_true hb]
    · cases hb
  · rw [Nat.eq_of_beq_eq_true hb]
  · simp only [Bool.and_eq_true] at hb
    rw [Nat.eq_of_beq_eq_true hb.1, Nat.eq_of_beq_eq_true hb.2.1, Nat.eq_of_beq_eq_true hb.2.2]
  · simp only [Bool.and_eq_true] at hb
    rw [Nat.eq_of_beq_eq_true hb.1, Nat.eq_of_beq_eq_true hb.2.1, Nat.eq_of_beq_eq_true hb.2.2.1, Nat.eq_of_beq_eq_true hb.2.2.2]
  · simp only [Bool.and_eq_true] at hb
    rw [Nat.eq_of_beq_eq_true hb.1, Nat.eq_of_beq_eq_true hb.2.1, Nat.eq_of_beq_eq_true hb.2.2.1, Nat.eq_of_beq_eq_true hb.2.2.2]
  · rw [Nat.eq_of_beq_eq_true hb]
  · cases hb
theorem beqs_ok {f : V → V → Bool} (hf : ∀ {a b : V}, f a b = true → a = b) : ∀ {x y : List V}, beqs f x y = true → x = y
  | [], [], _ => rfl
  | [], _ :: _, h => by cases h
  | _ :: _, [], h => by cases h
  | a :: x, b :: y, h => by
    simp only [beqs] at h
    split at h
    · rename_i h1; rw [hf h1, beqs_ok hf h]
    · cases h
theorem beqW_ok {f : V → V → Bool} (hf : ∀ {a b : V}, f a b = true → a = b) {a b : V} (h : beqW f a b = true) : a = b := by
  unfold beqW at h
  split at h
  · rw [beqs_ok hf h]
  · rw [beqs_ok hf h]
  · simp only [Bool.and_eq_true] at h
    rw [Nat.eq_of_beq_eq_true h.1, beqs_ok hf h.2.1, beqs_ok hf h.2.2]
  · simp only [Bool.and_eq_true] at h
    rw [Nat.eq_of_beq_eq_true h.1, hf h.2]
  · exact beq0_ok h
theorem beqV_ok {a b : V} (h : beqV a b = true) : a = b := beqW_ok (beqW_ok beq0_ok) h
theorem uniform_ok {v : V} {since : Nat} : ∀ {es : List (V × V × Nat)} {xs : List MapEntry}, ERs r es xs → uniform v since es = true → ∀ e ∈ xs, VR r v e.val ∧ e.born < since
  | _, _, .nil, _, e, he => by cases he
  | _, _, .cons k v' b x y es xs hk hv h, hu, e, he => by
    simp only [uniform, Bool.and_eq_true] at hu
    rcases List.mem_cons.1 he with rfl | he
    · exact ⟨by rw [← beqV_ok hu.1]; exact hv, Nat.le_of_ble_eq_true hu.2.1⟩
    · exact uniform_ok h hu.2.2 e he
def AObj.isIter : AObj → Bool
  | .mapIter _ _ _ _ => true
  | .mapIterU _ _ _ _ _ => true
  | .strIter _ _ => true
  | _ => false
theorem HR.iter_z (hr : HR P w0 r h w) {it c : Nat} {o : AObj} (hb : h.t.get it = some o) (ho : o.isIter = true) (hc : r.at_ it = some c) : r.sh it = 0 := by
  cases o with
  | mapIter => obtain ⟨_, _, hO, _⟩ := hr.ob it _ hb rfl _ hc; exact hO.1
  | mapIterU => obtain ⟨_, _, hO, _⟩ := hr.ob it _ hb rfl _ hc; exact hO.1
  | strIter => obtain ⟨_, _, hO, _⟩ := hr.ob it _ hb rfl _ hc; exact hO.1
  | _ => cases ho
theorem HR.iter_ptr (hr : HR P w0 r h w) {it : Nat} {o : AObj} {y : Value} (hb : h.t.get it = some o) (ho : o.isIter = true) (hy : VR r (.ptr it 0) y) : ∃ c, y = .pointer (some ⟨c, 0, none⟩) ∧ r.at_ it = some c := by
  obtain ⟨c, rfl, hc⟩ := hy.ptr_inv
  rw [hr.iter_z hb ho hc]
  exact ⟨c, rfl, hc⟩
theorem HR.iter (hr : HR P w0 r h w) {b c since stepped : Nat} {m : Option Nat} {seen : List Nat} (hb : h.t.get b = some (.mapIter m since seen stepped)) (hc : r.at_ b = some c) :
    ∃ m', w.heap[c]? = some (.mapIter m' since seen.toArray stepped) ∧ optAt r m m' := by
  obtain ⟨c', hc', hO, _⟩ := hr.ob b _ hb rfl _ hc
  obtain rfl : c' = c := by rw [hc] at hc'; exact (Option.some.inj hc').symm
  exact hO.2
theorem HR.iterU (hr : HR P w0 r h w) {b c m since cnt stepped : Nat} {st : List Nat} (hb : h.t.get b = some (.mapIterU m since st cnt stepped)) (hc : r.at_ b = some c) :
    ∃ m' seen, w.heap[c]? = some (.mapIter (some m') since seen stepped) ∧ r.at_ m = some m' ∧ seen.size = cnt ∧ seen.toList.Nodup ∧ (∀ x ∈ seen.toList, x ∈ st) ∧ st.Nodup := by
  obtain ⟨c', hc', hO, _⟩ := hr.ob b _ hb rfl _ hc
  obtain rfl : c' = c := by rw [hc] at hc'; exact (Option.some.inj hc').symm
  exact hO.2
theorem entryV_ok (hr : HR P w0 r h w) {it v : V} {y : Value} (hx : VR r it y) (he : entryV h it = some v) : ∃ u, VR r v u ∧ (Instr.entry y).run P w = .ok u w := by
  unfold entryV at he
  split at he
  · rename_i rr
    split at he
    · rename_i m since seen stepped hb
      obtain ⟨c, rfl, hc⟩ := hr.iter_ptr hb rfl hx
      obtain ⟨m', h0, m'', hm, rfl⟩ := hr.iter hb hc
      split at he
      · rename_i es clock hbm
        obtain ⟨xs, h1, hE⟩ := hr.map hbm hm
        split at he
        · rename_i hck
          have hck := Nat.eq_of_beq_eq_true hck
          split at he
          · rename_i st hst
            split at he
            · rename_i k u hf
              cases he
              obtain ⟨e, hfe, hk, hv⟩ := findStamp_ok hE hf
              have hfe' : xs.find? (fun e => e.born == st) = some e := by
                rw [← hfe]; cases xs; simp
              have g0 := getObj_run (P := P) h0 (by intros; simp)
              have g1 := getObj_run (P := P) h1 (by intros; simp)
              refine ⟨.tuple #[e.key, e.val], .tup _ [_, _] (.cons _ _ _ _ hk (.cons _ _ _ _ hv .nil)), ?_⟩
              simp [Instr.entry, g0, g1, lastN_spec hst, hck, hfe', Result.andThen]
            · cases he
          · cases he
        · cases he
      · cases he
    · rename_i m since st cnt stepped hb
      obtain ⟨c, rfl, hc⟩ := hr.iter_ptr hb rfl hx
      obtain ⟨m', seen, h0, hm, hs, hnd, hin, hst⟩ := hr.iterU hb hc
      split at he
      · rename_i es clock hbm
        obtain ⟨xs, h1, hE⟩ := hr.map hbm hm
        split at he
        · rename_i hck
          simp only [Bool.and_eq_true] at hck
          have hck1 := Nat.eq_of_beq_eq_true hck.1
          have hck2 : stampsOf es = st := by have := hck.2; rw [leqL_eq, decide_eq_true_eq] at this; exact this
          split at he
          · cases he
          · rename_i e0 es0
            split at he
            · rename_i hu
              cases he
              obtain ⟨b, hbk⟩ : ∃ b, seen.back? = some b := by
                have : 0 < seen.size := by omega
                exact ⟨seen[seen.size - 1], by rw [Array.back?]; exact Array.getElem?_eq_getElem (by omega)⟩
              have hbmem : b ∈ seen.toList := by
                have := Array.mem_of_back? hbk
                simpa using this
              have hbst := hin b hbmem
              rw [← hck2, ← stampsOf_ok hE] at hbst
              obtain ⟨e1, he1, hb1⟩ := List.mem_map.1 hbst
              obtain ⟨e, hfe⟩ : ∃ e, xs.find? (fun e => e.born == b) = some e := by
                have : (xs.find? (fun e => e.born == b)).isSome = true := by
                  rw [Array.find?_isSome]
                  exact ⟨e1, by simpa using he1, by simp [hb1]⟩
                exact Option.isSome_iff_exists.1 this
              have hmem : e ∈ xs.toList := by simpa using Array.mem_of_find?_eq_some hfe
              obtain ⟨hv, _⟩ := uniform_ok hE hu e hmem
              have g0 := getObj_run (P := P) h0 (by intros; simp)
              have g1 := getObj_run (P := P) h1 (by intros; simp)
              refine ⟨.tuple #[e.key, e.val], .tup _ [_, _] (.cons _ _ _ _ (.unk _) (.cons _ _ _ _ hv .nil)), ?_⟩
              simp [Instr.entry, g0, g1, hbk, hck1, hfe, Result.andThen]
            · cases he
        · cases he
      · cases he
    · cases he
  · cases he
theorem minV_ok {mx : Bool} {x y v : V} {X Y : Value} (hx : VR r x X) (hy : VR r y Y) (hm : minV mx x y = some v) : ∃ u, VR r v u ∧ (if mx then Builtin.max2 X Y else Builtin.min2 X Y).run P w = .ok u w := by
  unfold minV at hm
  split at hm
  · rename_i k a j b
    rw [hx.int_inv, hy.int_inv]
    split at hm
    · cases hm
      refine ⟨_, .int k _, ?_⟩
      rw [ltF_eq]
      by_cases h : b < a <;> simp [Builtin.min2, h]
    · cases hm
      refine ⟨_, .int k _, ?_⟩
      rw [ltF_eq]
      by_cases h : a < b <;> simp [Builtin.max2, h]
  · cases hm
theorem minsV_ok {mx : Bool} : ∀ {l : List V} {ls : List Value} {x v : V} {X : Value}, VR r x X → VRs r l ls → minsV mx x l = some v → ∃ u, VR r v u ∧ (ls.foldlM (if mx then Builtin.max2 else Builtin.min2) X).run P w = .ok u w
  | [], _, x, v, X, hx, .nil, hm => by cases hm; exact ⟨X, hx, by simp⟩
  | y :: l, _, x, v, X, hx, .cons _ Y _ ys hy hl, hm => by
    simp only [minsV] at hm
    split at hm
    · rename_i z hz
      obtain ⟨u, hu, hrun⟩ := minV_ok (P := P) (w := w) hx hy hz
      obtain ⟨q, hq, hrun'⟩ := minsV_ok hu hl hm
      refine ⟨q, hq, ?_⟩
      cases mx <;> simp_all [List.foldlM_cons, Result.andThen]
    · cases hm
/-- Every operation that only reads. -/
theorem rd_ok (hr : HR P w0 r h w) (he : ER r tm ρ) {o : Oper} {v : V} (hd : rd P tm h o = some v) : ∃ x, VR r v x ∧ (execOp ρ o).run P w = .ok (.value x) w := by
  obtain ⟨dst, op, type, pos, after, guard⟩ := o
  unfold rd at hd
  cases op <;> dsimp only at hd <;> try (cases hd; done)
  case move x => exact ⟨_, he _ _ hd, rfl⟩
  case pick c a b =>
    split at hd
    · rename_i hc
      have := (he _ _ hc).bool_inv
      exact ⟨_, he _ _ hd, by simp [execOp, this, asBool]⟩
    · rename_i hc
      have := (he _ _ hc).bool_inv
      exact ⟨_, he _ _ hd, by simp [execOp, this, asBool]⟩
    · cases hd
  case build t parts =>
    split at hd
    · rename_i ps hps
      obtain ⟨x, hx, hrun⟩ := build_ok (w := w) (evParts_ok he hps) hd
      refine ⟨x, hx, ?_⟩
      refine exec_v ?_
      rw [← hrun]; congr 2
      apply Array.ext'; simp
    · cases hd
  case load t a =>
    split at hd
    · rename_i b off ha
      obtain ⟨c, hc, hcat⟩ := (he _ _ ha).ptr_inv
      obtain ⟨x, hx, hrun⟩ := loadT_ok hr hcat hd
      exact ⟨x, hx, exec_v (by rw [hc]; simp [Instr.loadAt, Instr.sureAddr, hrun])⟩
    · cases hd
  case nilCheck x =>
    split at hd
    · rename_i b off hx
      cases hd
      obtain ⟨c, hc, hcat⟩ := (he _ _ hx).ptr_inv
      exact ⟨_, .ptr b off c _ hcat rfl, by simp only [execOp, hc]; rfl⟩
    · rename_i f a b hx
      cases hd
      obtain ⟨p, q, hc, h1, h2⟩ := (he _ _ hx).fn_inv
      exact ⟨_, .fn f a b p q h1 h2, by simp only [execOp, hc]; rfl⟩
    · rename_i t u hx
      cases hd
      obtain ⟨p, hc, h1⟩ := (he _ _ hx).iface_inv
      exact ⟨_, .iface t u p h1, by simp only [execOp, hc]; rfl⟩
    · cases hd
  case binOp op t x y yt =>
    split at hd
    · rename_i a ha
      split at hd
      · rename_i b hb
        obtain ⟨u, hu, h1, h2⟩ := binV_ok (P := P) (w := w) hr (he _ _ ha) (he _ _ hb) hd
        exact ⟨u, hu, exec_v (by simp [h1, h2, Result.andThen])⟩
      · cases hd
    · cases hd
  case unOp op t x =>
    split at hd
    · rename_i k n hx
      cases hd
      refine ⟨_, .int k _, exec_v ?_⟩
      rw [(he _ _ hx).int_inv, wrapF_eq]; rfl
    · rename_i k n hx
      cases hd
      refine ⟨_, .int k _, exec_v ?_⟩
      rw [(he _ _ hx).int_inv]
      have hlt : modK k - 1 < modK k := by have := modK_pos k; omega
      rw [adj_eq k _ (by rw [modK_nat] at *; exact Nat.xor_lt_two_pow hlt (by have := toU_lt k n; rw [modK_nat] at this; exact this))]
      have e : (BitVec.ofInt k.bits (if k.signed then -1 else k.max)).toNat = modK k - 1 := by rw [ofInt_toNat]; cases k <;> rfl
      simp only [Op.unary, Op.intBits, Sem.run_pure]
      congr 3
      rw [BitVec.toNat_xor, e, ofInt_toNat]; rfl
    · rename_i b hx
      cases hd
      refine ⟨_, .bool _, exec_v ?_⟩
      rw [(he _ _ hx).bool_inv]; rfl
    · cases hd
  case convert s d x =>
    split at hd
    · rename_i a ha
      obtain ⟨u, hu, hrun⟩ := convV_ok hr (he _ _ ha) hd
      exact ⟨u, hu, exec_v hrun⟩
    · cases hd
  case makeInterface t x =>
    split at hd
    · cases hd
    · rename_i d hnd hu
      split at hd
      · rename_i a ha
        cases hd
        refine ⟨_, .iface t a _ (he _ _ ha), exec_v ?_⟩
        cases d <;> first | (simp [Instr.makeInterface, run_underlying hu, Result.andThen]; done) | exact absurd rfl (hnd _)
      · cases hd
    · cases hd
  case makeFunc fn first cap =>
    cases fn <;> dsimp only at hd <;> try (cases hd; done)
    rename_i f
    split at hd
    · rename_i a ha
      split at hd
      · rename_i b hb
        cases hd
        refine ⟨_, .fn f a b _ _ (evs_ok he ha) (evs_ok he hb), exec_v ?_⟩
        have e : ∀ x : Array Operand, x.map ρ = ⟨x.toList.map ρ⟩ := fun x => by apply Array.ext'; simp
        rw [e first, e cap]; rfl
      · cases hd
    · cases hd
  case fieldAddr t x f =>
    split at hd
    · rename_i b off hx
      obtain ⟨c, hc, hcat⟩ := (he _ _ hx).ptr_inv
      split at hd
      · rename_i o n g hf
        cases hd
        exact ⟨_, .ptr b _ c _ hcat (Nat.add_assoc _ _ _).symm, exec_v (by rw [hc]; exact fieldAt_ok (_b := b) hf)⟩
      · cases hd
    · cases hd
  case field t x f =>
    split at hd
    · rename_i cs hx
      obtain ⟨p, hc, hp⟩ := (he _ _ hx).agg_inv
      split at hd
      · rename_i o n g hf
        obtain ⟨u, hu, hrun⟩ := field_ok (w := w) hf hp hd
        exact ⟨u, hu, exec_v (by rw [hc]; exact hrun)⟩
      · cases hd
    · cases hd
  case indexAddr t x i =>
    split at hd
    · rename_i k i' hi
      have hiv := (he _ _ hi).int_inv
      split at hd
      · rename_i b off len cap hx
        obtain ⟨c, m, hc, hcat, _⟩ := (he _ _ hx).sl_inv
        split at hd
        · rename_i elem esz g hs
          split at hd
          · rename_i hlt
            cases hd
            exact ⟨_, .ptr b _ c _ hcat (Nat.add_assoc _ _ _).symm, exec_v (by rw [hc, hiv]; exact indexAt_sl hs (Nat.le_of_ble_eq_true hlt))⟩
          · cases hd
        · cases hd
      · rename_i b off hx
        obtain ⟨c, hc, hcat⟩ := (he _ _ hx).ptr_inv
        split at hd
        · rename_i n elem hu
          split at hd
          · rename_i g esz ht
            split at hd
            · rename_i hlt
              cases hd
              exact ⟨_, .ptr b _ c _ hcat (Nat.add_assoc _ _ _).symm, exec_v (by rw [hc, hiv]; exact indexAt_arr hu ht (Nat.le_of_ble_eq_true hlt))⟩
            · cases hd
          · cases hd
        · cases hd
      · cases hd
    · cases hd
  case index t x i =>
    split at hd
    · rename_i k i' hi
      have hiv := (he _ _ hi).int_inv
      split at hd
      · rename_i s hx
        obtain ⟨p, hc, hp⟩ := (he _ _ hx).str_inv
        split at hd
        · rename_i hu
          split at hd
          · rename_i b hb
            cases hd
            exact ⟨_, .int .u8 _, exec_v (by rw [hc, hiv]; exact index_str hu (by rw [hp]; exact hb))⟩
          · cases hd
        · cases hd
      · rename_i cs hx
        obtain ⟨p, hc, hp⟩ := (he _ _ hx).agg_inv
        split at hd
        · rename_i n elem hu
          split at hd
          · rename_i g esz ht
            split at hd
            · rename_i hlt
              obtain ⟨u, hu', hrun⟩ := index_arr (w := w) (k := k) hu ht (Nat.le_of_ble_eq_true hlt) hp hd
              exact ⟨u, hu', exec_v (by rw [hc, hiv]; exact hrun)⟩
            · cases hd
          · cases hd
        · cases hd
      · cases hd
    · cases hd
  case lookup t x i ok =>
    split at hd
    · rename_i m hm
      split at hd
      · rename_i key hk
        obtain ⟨u, hu, hrun⟩ := lookV_ok hr (he _ _ hm) (he _ _ hk) hd
        exact ⟨u, hu, exec_v hrun⟩
      · cases hd
    · cases hd
  case typeAssert x xt at_ ok =>
    split at hd
    · rename_i a ha
      obtain ⟨u, hu, hrun⟩ := assertV_ok (w := w) (xt := xt) (he _ _ ha) hd
      exact ⟨u, hu, exec_v hrun⟩
    · cases hd
  case extract x i =>
    split at hd
    · rename_i vs hx
      obtain ⟨p, hc, hp⟩ := (he _ _ hx).tup_inv
      obtain ⟨u, hu, hv⟩ := hp.get hd
      exact ⟨u, hv, exec_v (by rw [hc]; simp [Instr.extract, hu])⟩
    · cases hd
  case slice t x lo hi mx =>
    split at hd
    · rename_i a ha
      obtain ⟨u, hu, hrun⟩ := sliceAtV_ok hr he (he _ _ ha) hd
      exact ⟨u, hu, exec_v hrun⟩
    · cases hd
  case entry it =>
    split at hd
    · rename_i a ha
      obtain ⟨u, hu, hrun⟩ := entryV_ok hr (he _ _ ha) hd
      exact ⟨u, hu, exec_v hrun⟩
    · cases hd
  case call c =>
    obtain ⟨callee, args, ats⟩ := c
    dsimp only at hd
    have e : ∀ x : Array Operand, x.map ρ = ⟨x.toList.map ρ⟩ := fun x => by apply Array.ext'; simp
    split at hd
    · split at hd
      · rename_i x xs t ts hargs hats
        split at hd
        · rename_i a ha
          obtain ⟨u, hu, hrun⟩ := lenV_ok (ty := type) (ts := ts) (ys := xs.map ρ) hr (he _ _ ha) hd
          refine ⟨u, hu, ?_⟩
          have h1 : args.map ρ = ⟨ρ x :: xs.map ρ⟩ := by rw [e, hargs]; rfl
          have h2 : ats = ⟨t :: ts⟩ := by apply Array.ext'; rw [hats]
          simp only [execOp, resolve, Sem.run_bind, Sem.run_pure, andThen_ok, invoke, builtin, h1, h2, hrun]
        · cases hd
      · cases hd
    · split at hd
      · rename_i x xs t ts hargs hats
        have h1 : args.map ρ = ⟨ρ x :: xs.map ρ⟩ := by rw [e, hargs]; rfl
        have h2 : ats = ⟨t :: ts⟩ := by apply Array.ext'; rw [hats]
        split at hd
        · rename_i el b off n m hu ha
          cases hd
          obtain ⟨c, cp, hc, _, hm⟩ := (he _ _ ha).sl_inv
          obtain rfl : cp = m := hm
          refine ⟨_, .int _ _, ?_⟩
          simp only [execOp, resolve, Sem.run_bind, Sem.run_pure, andThen_ok, invoke, builtin, h1, h2, hc]
          simp [Builtin.cap_, run_underlying hu, goInt, Result.andThen]
        · rename_i el hu ha
          cases hd
          refine ⟨_, .int _ _, ?_⟩
          simp only [execOp, resolve, Sem.run_bind, Sem.run_pure, andThen_ok, invoke, builtin, h1, h2, (he _ _ ha).nils_inv]
          simp [Builtin.cap_, run_underlying hu, goInt, Result.andThen]
        · cases hd
      · cases hd
    · split at hd
      · rename_i x l hl
        have hv := evs_ok he hl
        generalize hz : args.toList.map ρ = zs at hv
        cases hv with
        | cons _ X _ ys hx hy =>
          obtain ⟨u, hu, hrun⟩ := minsV_ok (P := P) (w := w) hx hy hd
          refine ⟨u, hu, ?_⟩
          have h1 : args.map ρ = ⟨X :: ys⟩ := by rw [e, hz]
          simp only [Bool.false_eq_true, if_false] at hrun
          simp only [execOp, resolve, Sem.run_bind, Sem.run_pure, andThen_ok, invoke, builtin, h1, Builtin.min_, hrun]
      · cases hd
    · split at hd
      · rename_i x l hl
        have hv := evs_ok he hl
        generalize hz : args.toList.map ρ = zs at hv
        cases hv with
        | cons _ X _ ys hx hy =>
          obtain ⟨u, hu, hrun⟩ := minsV_ok (P := P) (w := w) hx hy hd
          refine ⟨u, hu, ?_⟩
          have h1 : args.map ρ = ⟨X :: ys⟩ := by rw [e, hz]
          simp only [if_true] at hrun
          simp only [execOp, resolve, Sem.run_bind, Sem.run_pure, andThen_ok, invoke, builtin, h1, Builtin.max_, hrun]
      · cases hd
    · cases hd
end ops
end
end Go.Ev
