/- The step machine: numbers, texts, constants. -/
import Derived.Test.YtaokjpbgdehhiaaGreatDoorEvMA
namespace Go.Ev
open Go Go.RowKit
noncomputable section

theorem modK_eq (k : IntKind) : ((modK k : Nat) : Int) = 2 ^ k.bits := by cases k <;> rfl
theorem halfK_eq (k : IntKind) : ((halfK k : Nat) : Int) = 2 ^ (k.bits - 1) := by cases k <;> rfl
theorem modK_pos (k : IntKind) : 0 < modK k := by cases k <;> decide
theorem modK_half (k : IntKind) : modK k = 2 * halfK k := by cases k <;> rfl
theorem modK_nat (k : IntKind) : modK k = 2 ^ k.bits := by cases k <;> rfl
theorem toU_eq (k : IntKind) (n : Int) : ((toU k n : Nat) : Int) = n % 2 ^ k.bits := by
  rw [← modK_eq]
  have hp := modK_pos k
  cases n with
  | ofNat m => show ((m % modK k : Nat) : Int) = _; simp
  | negSucc m =>
    show (((modK k - 1) - m % modK k : Nat) : Int) = _
    have h1 : m % modK k < modK k := Nat.mod_lt _ hp
    rw [Int.negSucc_emod_ofNat]
    unfold Int.subNatNat
    split
    · simp; omega
    · omega
theorem toU_lt (k : IntKind) (n : Int) : toU k n < modK k := by
  have h := toU_eq k n
  rw [← modK_eq] at h
  have h2 := Int.emod_lt_of_pos n (show (0 : Int) < (modK k : Int) by have := modK_pos k; omega)
  omega
theorem adj_eq (k : IntKind) (r : Nat) (hr : r < modK k) : adj k r = k.wrap (r : Int) := by
  have h1 := modK_eq k
  have h2 := halfK_eq k
  have h3 := modK_half k
  have hm : ((r : Nat) : Int) % (2 ^ k.bits : Int) = r := by rw [← h1]; exact Int.emod_eq_of_lt (by omega) (by omega)
  unfold adj IntKind.wrap
  simp only [hm]
  cases hs : k.signed with
  | false => simp
  | true =>
    simp only [Bool.true_and]
    cases hb : Nat.ble (halfK k) r with
    | true =>
      have hle : halfK k ≤ r := Nat.le_of_ble_eq_true hb
      rw [if_pos (by simp; rw [← h2]; omega), ← h1]
      show Int.negSucc (modK k - r - 1) = _
      omega
    | false =>
      have hlt : ¬ halfK k ≤ r := fun h => by rw [Nat.ble_eq_true_of_le h] at hb; cases hb
      rw [if_neg (by simp; rw [← h2]; omega)]
      rfl
theorem wrapF_eq (k : IntKind) (n : Int) : wrapF k n = k.wrap n := by
  unfold wrapF
  rw [adj_eq k _ (toU_lt k n), toU_eq]
  unfold IntKind.wrap
  rw [Int.emod_emod_of_dvd _ (Int.dvd_refl _)]
theorem ltF_eq (x y : Int) : ltF x y = decide (x < y) := by
  cases x <;> cases y <;> simp only [ltF]
  · rw [Bool.eq_iff_iff]; simp [Nat.ble_eq]; omega
  · simp; omega
  · simp; omega
  · rw [Bool.eq_iff_iff]; simp [Nat.ble_eq]; omega
theorem eqF_eq (x y : Int) : eqF x y = (x == y) := by
  cases x <;> cases y <;> simp only [eqF]
  · rw [Bool.eq_iff_iff]; simp only [Nat.beq_eq, beq_iff_eq]; exact ⟨fun h => by rw [h], fun h => Int.ofNat.inj h⟩
  · rfl
  · rfl
  · rw [Bool.eq_iff_iff]; simp [Nat.beq_eq]
theorem kindEq_eq {a b : IntKind} (h : kindEq a b = true) : a = b := by cases a <;> cases b <;> first | rfl | cases h
theorem bitsK_eq (k : IntKind) : bitsK k = k.bits := by cases k <;> rfl
theorem ofInt_toNat (k : IntKind) (x : Int) : (BitVec.ofInt k.bits x).toNat = toU k x := by
  have h := toU_eq k x
  have h2 := toU_lt k x
  rw [BitVec.toNat_ofInt]
  have e : ((2 ^ k.bits : Nat) : Int) = 2 ^ k.bits := by rw [← modK_nat, modK_eq]
  rw [e, ← h]; simp
theorem toU_back (k : IntKind) (x : Int) : (x % 2 ^ k.bits).toNat = toU k x := by rw [← toU_eq]; simp
theorem shl_run {P : Program} {w : World} {k j : IntKind} {x y z : Int} (h : shlF k x y = some z) : (Op.shift .shl k x j y).run P w = .ok (.int k z) w := by
  unfold shlF at h
  cases y with
  | negSucc m => cases h
  | ofNat s =>
    cases h
    rw [wrapF_eq, bitsK_eq]
    have hn : ¬ (Int.ofNat s < 0) := by simp
    have e : Int.mul x (Int.ofNat (Nat.pow 2 (Nat.min s k.bits))) = x * 2 ^ (min s k.bits) := by
      show x * ((2 ^ (min s k.bits) : Nat) : Int) = _
      rw [Int.natCast_pow]; rfl
    rw [e]
    unfold Op.shift
    rw [if_neg hn]
    rfl
theorem shr_run {P : Program} {w : World} {k j : IntKind} {x y z : Int} (h : shrF k x y = some z) : (Op.shift .shr k x j y).run P w = .ok (.int k z) w := by
  unfold shrF at h
  cases y with
  | negSucc m => cases h
  | ofNat s =>
    have hn : ¬ (Int.ofNat s < 0) := by simp
    unfold Op.shift
    rw [if_neg hn]
    have e2 : (2 : Int) ^ (min (Int.ofNat s).toNat k.bits) = ((2 ^ (min s k.bits) : Nat) : Int) := by rw [Int.natCast_pow]; rfl
    have hp : 0 < 2 ^ (min s k.bits) := Nat.pow_pos (by omega)
    show (pure (Value.int k (x.fdiv (2 ^ (min (Int.ofNat s).toNat k.bits)))) : Sem Value).run P w = _
    rw [e2, Int.fdiv_eq_ediv_of_nonneg _ (by omega)]
    cases x with
    | ofNat m => cases h; rw [bitsK_eq]; rfl
    | negSucc m =>
      cases h; rw [bitsK_eq]
      obtain ⟨q, hq⟩ : ∃ q, 2 ^ (min s k.bits) = q + 1 := ⟨2 ^ (min s k.bits) - 1, by omega⟩
      have e3 : Nat.pow 2 (Nat.min s k.bits) = q + 1 := hq
      rw [hq, e3]; rfl
theorem intOp_run {P : Program} {w : World} {op : BinOp} {k : IntKind} {x y : Int} {v : V} (h : intOp op k x y = some v) (hns : op ≠ .shl ∧ op ≠ .shr) :
    ∃ u, (∀ r, VR r v u) ∧ (binOp op 0 (.int k x) (.int k y)).run P w = .ok u w ∧ ∀ t, binOp op t (.int k x) (.int k y) = binOp op 0 (.int k x) (.int k y) := by
  have ht : ∀ t, binOp op t (.int k x) (.int k y) = binOp op 0 (.int k x) (.int k y) := by
    intro t; cases op <;> first | rfl | exact absurd rfl hns.1 | exact absurd rfl hns.2
  have hand : ∀ a b : Nat, a < modK k → Nat.land a b < modK k := fun a b ha => Nat.lt_of_le_of_lt Nat.and_le_left ha
  have hx := toU_lt k x
  have hy := toU_lt k y
  cases op <;> simp only [intOp, Option.some.injEq, reduceCtorEq] at h
  case add => subst h; exact ⟨_, fun r => .int k _, by rw [wrapF_eq]; simp [binOp, Op.intArith] <;> rfl, ht⟩
  case sub => subst h; exact ⟨_, fun r => .int k _, by rw [wrapF_eq]; simp [binOp, Op.intArith] <;> rfl, ht⟩
  case mul => subst h; exact ⟨_, fun r => .int k _, by rw [wrapF_eq]; simp [binOp, Op.intArith] <;> rfl, ht⟩
  case quo =>
    rw [eqF_eq] at h
    cases hz : (y == Int.ofNat 0) <;> rw [hz] at h <;> simp at h
    subst h
    have hz' : ¬ y = 0 := by simpa using hz
    exact ⟨_, fun r => .int k _, by rw [wrapF_eq]; simp [binOp, Op.intDiv, hz'], ht⟩
  case rem =>
    rw [eqF_eq] at h
    cases hz : (y == Int.ofNat 0) <;> rw [hz] at h <;> simp at h
    subst h
    have hz' : ¬ y = 0 := by simpa using hz
    exact ⟨_, fun r => .int k _, by simp [binOp, Op.intDiv, hz'], ht⟩
  case and =>
    subst h
    refine ⟨_, fun r => .int k _, ?_, ht⟩
    rw [adj_eq k _ (hand _ _ hx)]
    simp [binOp, Op.intBits, toU_back] <;> rfl
  case or =>
    subst h
    refine ⟨_, fun r => .int k _, ?_, ht⟩
    rw [adj_eq k _ (by rw [modK_nat] at *; exact Nat.or_lt_two_pow hx hy)]
    simp [binOp, Op.intBits, toU_back] <;> rfl
  case xor =>
    subst h
    refine ⟨_, fun r => .int k _, ?_, ht⟩
    rw [adj_eq k _ (by rw [modK_nat] at *; exact Nat.xor_lt_two_pow hx hy)]
    simp [binOp, Op.intBits, toU_back] <;> rfl
  case andNot =>
    subst h
    refine ⟨_, fun r => .int k _, ?_, ht⟩
    rw [adj_eq k _ (hand _ _ hx)]
    simp [binOp, Op.intBits, toU_back, BitVec.toNat_not, modK_nat] <;> rfl
  case eql => subst h; exact ⟨_, fun r => .bool _, by rw [eqF_eq]; simp [binOp, Op.intCmp], ht⟩
  case neq => subst h; exact ⟨_, fun r => .bool _, by rw [eqF_eq]; simp [binOp, Op.intCmp, bne], ht⟩
  case lss => subst h; exact ⟨_, fun r => .bool _, by rw [ltF_eq]; simp [binOp, Op.intCmp], ht⟩
  case leq =>
    subst h
    have e : decide (x ≤ y) = !decide (y < x) := by rw [Bool.eq_iff_iff]; simp <;> omega
    exact ⟨_, fun r => .bool _, by rw [ltF_eq, ← e]; simp [binOp, Op.intCmp], ht⟩
  case gtr => subst h; exact ⟨_, fun r => .bool _, by rw [ltF_eq]; simp [binOp, Op.intCmp], ht⟩
  case geq =>
    subst h
    have e : decide (x ≥ y) = !decide (x < y) := by rw [Bool.eq_iff_iff]; simp <;> omega
    exact ⟨_, fun r => .bool _, by rw [ltF_eq, ← e]; simp [binOp, Op.intCmp], ht⟩
end
end Go.Ev
