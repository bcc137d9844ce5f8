/- A region that draws its order, in one planned order: what reads under S need hold only till operation z (that waits for all such reads) has come up. -/
import Derived.Test.YtaokjpbgdehhiaaGreatDoorPlan
namespace Go.Proofs.YtaokjpbgdehhiaaGreatDoor.B
open Go.RowKit

section
variable {P : Program} {ops : Array Oper} {Q : Exit → Act → World → Prop} {S : World → Prop} {ef rd : List Nat} {z : Nat}

def wpAnyZ (P : Program) (ops : Array Oper) (Q : Exit → Act → World → Prop) (S : World → Prop) (z : Nat) : Nat → Array Bool → Act → World → Prop
  | 0, listed, a, w => Region.ready .any ops listed = [] ∧ Q .normal a w
  | fuel + 1, listed, a, w =>
    (Region.ready .any ops listed = [] → Q .normal a w) ∧
    ∀ i ∈ Region.ready .any ops listed, wpOp P ops Q i (fun a' w' => ((listed.setIfInBounds i true).getD z true = false → S w') ∧ wpAnyZ P ops Q S z fuel (listed.setIfInBounds i true) a' w') a w
theorem wpAny_of_z : ∀ (fuel : Nat) (listed : Array Bool) (a : Act) (w : World), wpAnyZ P ops Q S z fuel listed a w → wpAny P .any ops Q fuel listed a w
  | 0, _, _, _, h => h
  | fuel + 1, _, _, _, h => ⟨h.1, fun i hi => wpOp_mono (fun a' w' h' => wpAny_of_z fuel _ a' w' h'.2) (h.2 i hi)⟩
/-- What reads under S, and for which z waits. -/
theorem wpAnyZ_first {i : Nat} {oi oz : Oper} {v : Value} (hi : ops[i]? = some oi) (hsel : ∀ (j : Nat) (o : Oper) cs b, ops[j]? = some o → o.op ≠ .select cs b)
    (hQ : ∀ c a w, Q (.panic c) (a.put oi.dst v) w → Q (.panic c) a w) (hiz : i ≠ z) (hz : ops[z]? = some oz) (hez : ∃ e ∈ oz.after, Region.binds .any e = true ∧ e.on = i) :
    ∀ (fuel : Nat) (listed : Array Bool) (a : Act) (w : World),
      (∀ j oj, ops[j]? = some oj → j ≠ i → listed.getD j true = false → (∀ e ∈ oj.after, Region.binds .any e = true → e.on ≠ i) → oi.apart ops oj = true) →
      i ∈ Region.ready .any ops listed → YieldsIf P ops S oi v a → S w → listed.getD z true = false →
      wpAnyZ P ops Q S z fuel (listed.setIfInBounds i true) (a.put oi.dst v) w → wpAnyZ P ops Q S z (fuel + 1) listed a w := by
  intro fuel
  induction fuel with
  | zero =>
    intro listed a w _ hr hy hS hzl H
    refine ⟨fun h => (by rw [h] at hr; cases hr), fun j hj => ?_⟩
    by_cases hji : j = i
    · subst hji; exact hy.wpOp hi hS ⟨fun _ => hS, H⟩
    · have := ready_mono hj hji
      rw [H.1] at this
      cases this
  | succ fuel ih =>
    intro listed a w hfree hr hy hS hzl H
    refine ⟨fun h => (by rw [h] at hr; cases hr), fun j hj => ?_⟩
    by_cases hji : j = i
    · subst hji; exact hy.wpOp hi hS ⟨fun _ => hS, H⟩
    · have h1 := H.2 j (ready_mono hj hji)
      obtain ⟨hjun, oj, hoj, hall⟩ := mem_ready.1 hj
      have hnot : ∀ e ∈ oj.after, Region.binds .any e = true → e.on ≠ i := fun e he hb heq => by
        have h1 := hall e he hb
        have h0 := (mem_ready.1 hr).1
        rw [heq] at h1
        rcases Nat.lt_or_ge i listed.size with h' | h'
        · simp [h'] at h0 h1; rw [h0] at h1; cases h1
        · simp [Array.getElem?_eq_none h'] at h1
      have hjz : j ≠ z := by
        intro e
        subst e
        obtain rfl := Option.some.inj (hoj.symm.trans hz)
        obtain ⟨e, he, hb, heq⟩ := hez
        exact hnot e he hb heq
      have h2 := wpOp_putIf hoj (hfree j oj hoj hji hjun hnot) (fun cs b => hsel i oi cs b hi) (fun cs b => hsel j oj cs b hoj) hQ hy h1
      have hfree' : ∀ k ok, ops[k]? = some ok → k ≠ i → (listed.setIfInBounds j true).getD k true = false →
          (∀ e ∈ ok.after, Region.binds .any e = true → e.on ≠ i) → oi.apart ops ok = true := fun k ok hk hki hun hno => by
        refine hfree k ok hk hki ?_ hno
        by_cases hjk : j = k
        · subst hjk; exact hjun
        · rw [getD_set_ne true hjk] at hun; exact hun
      have hzl' : (listed.setIfInBounds j true).getD z true = false := by rw [getD_set_ne true hjz]; exact hzl
      have hzl2 : ((listed.setIfInBounds i true).setIfInBounds j true).getD z true = false := by rw [getD_set_ne true hjz, getD_set_ne true hiz]; exact hzl
      refine wpOp_mono (fun a' w' h3 => ⟨fun _ => h3.2.1 hzl2, ih (listed.setIfInBounds j true) a' w' hfree' (ready_mono hr (Ne.symm hji)) h3.1 (h3.2.1 hzl2) hzl' ?_⟩) h2
      rw [Array.setIfInBounds_comm _ _ hji]
      exact h3.2.2
/-- What yields in whatever world. -/
theorem wpAnyZ_any {i : Nat} {oi : Oper} {v : Value} (hi : ops[i]? = some oi) (hsel : ∀ (j : Nat) (o : Oper) cs b, ops[j]? = some o → o.op ≠ .select cs b)
    (hQ : ∀ c a w, Q (.panic c) (a.put oi.dst v) w → Q (.panic c) a w) (hiz : i ≠ z) :
    ∀ (fuel : Nat) (listed : Array Bool) (a : Act) (w : World),
      (∀ j oj, ops[j]? = some oj → j ≠ i → listed.getD j true = false → (∀ e ∈ oj.after, Region.binds .any e = true → e.on ≠ i) → oi.apart ops oj = true) →
      i ∈ Region.ready .any ops listed → YieldsIf P ops (fun _ => True) oi v a → (listed.getD z true = false → S w) →
      wpAnyZ P ops Q S z fuel (listed.setIfInBounds i true) (a.put oi.dst v) w → wpAnyZ P ops Q S z (fuel + 1) listed a w := by
  intro fuel
  induction fuel with
  | zero =>
    intro listed a w _ hr hy hS H
    refine ⟨fun h => (by rw [h] at hr; cases hr), fun j hj => ?_⟩
    by_cases hji : j = i
    · subst hji; exact hy.wpOp hi trivial ⟨fun h => hS (by rw [getD_set_ne true hiz] at h; exact h), H⟩
    · have := ready_mono hj hji
      rw [H.1] at this
      cases this
  | succ fuel ih =>
    intro listed a w hfree hr hy hS H
    refine ⟨fun h => (by rw [h] at hr; cases hr), fun j hj => ?_⟩
    by_cases hji : j = i
    · subst hji; exact hy.wpOp hi trivial ⟨fun h => hS (by rw [getD_set_ne true hiz] at h; exact h), H⟩
    · have h1 := H.2 j (ready_mono hj hji)
      obtain ⟨hjun, oj, hoj, hall⟩ := mem_ready.1 hj
      have hnot : ∀ e ∈ oj.after, Region.binds .any e = true → e.on ≠ i := fun e he hb heq => by
        have h1 := hall e he hb
        have h0 := (mem_ready.1 hr).1
        rw [heq] at h1
        rcases Nat.lt_or_ge i listed.size with h' | h'
        · simp [h'] at h0 h1; rw [h0] at h1; cases h1
        · simp [Array.getElem?_eq_none h'] at h1
      have h2 := wpOp_putIf hoj (hfree j oj hoj hji hjun hnot) (fun cs b => hsel i oi cs b hi) (fun cs b => hsel j oj cs b hoj) hQ hy h1
      have hfree' : ∀ k ok, ops[k]? = some ok → k ≠ i → (listed.setIfInBounds j true).getD k true = false →
          (∀ e ∈ ok.after, Region.binds .any e = true → e.on ≠ i) → oi.apart ops ok = true := fun k ok hk hki hun hno => by
        refine hfree k ok hk hki ?_ hno
        by_cases hjk : j = k
        · subst hjk; exact hjun
        · rw [getD_set_ne true hjk] at hun; exact hun
      have hSS : ∀ w' : World, (((listed.setIfInBounds i true).setIfInBounds j true).getD z true = false → S w') → (listed.setIfInBounds j true).getD z true = false → S w' := by
        intro w' h h'
        refine h ?_
        rw [Array.setIfInBounds_comm _ _ (Ne.symm hji), getD_set_ne true hiz]
        exact h'
      refine wpOp_mono (fun a' w' h3 => ⟨hSS w' h3.2.1, ih (listed.setIfInBounds j true) a' w' hfree' (ready_mono hr (Ne.symm hji)) h3.1 (hSS w' h3.2.1) ?_⟩) h2
      rw [Array.setIfInBounds_comm _ _ hji]
      exact h3.2.2

def planZStep (ops : Array Oper) (ef rd : List Nat) (z : Nat) (l : Array Bool) (i : Nat) : Bool :=
  if ef.contains i then Region.ready .any ops l == [i]
  else (i != z) && Region.free .any ops l i && (Region.ready .any ops l).contains i && (!rd.contains i || (!l.getD z true && match ops[z]? with | some oz => oz.after.any (fun e => Region.binds .any e && e.on == i) | none => false))
def planZB (ops : Array Oper) (ef rd : List Nat) (z : Nat) : Array Bool → List Nat → Bool
  | l, [] => Region.ready .any ops l == []
  | l, i :: r => planZStep ops ef rd z l i && planZB ops ef rd z (l.setIfInBounds i true) r
/-- What is to be shown of the operations that are left; b: z is still to come. -/
def PlanZ (P : Program) (ops : Array Oper) (Q : Exit → Act → World → Prop) (S : World → Prop) (ef rd : List Nat) (z : Nat) : Bool → List Nat → Act → World → Prop
  | _, [], a, w => Q .normal a w
  | b, i :: r, a, w => ∃ o, ops.toList[i]? = some o ∧
    if ef.contains i then ∀ K : Act → World → Prop, (∀ a' w', ((b && i != z) = true → S w') → PlanZ P ops Q S ef rd z (b && i != z) r a' w' → K a' w') → if Region.wanted o (yielded ops a.tmps) = true then Oper.wp P o a w K Q else K (a.put o.dst undef) w
    else ∃ v, YieldsIf P ops (if rd.contains i then S else fun _ => True) o v a ∧ PlanZ P ops Q S ef rd z b r (a.put o.dst v) w
theorem planZ_any (hs : Region.noSelect ops = true) (hQ : ∀ c d v a w, Q (.panic c) (a.put d v) w → Q (.panic c) a w) :
    ∀ (r : List Nat) (l : Array Bool) (a : Act) (w : World), planZB ops ef rd z l r = true → (l.getD z true = false → S w) → PlanZ P ops Q S ef rd z (!l.getD z true) r a w → wpAnyZ P ops Q S z r.length l a w := by
  intro r
  induction r with
  | nil =>
    intro l a w hp _ h
    exact ⟨by simpa [planZB] using hp, h⟩
  | cons i r ih =>
    intro l a w hp hS h
    simp only [planZB, Bool.and_eq_true, planZStep] at hp
    obtain ⟨hp1, hp2⟩ := hp
    obtain ⟨o, ho, h⟩ := h
    rw [Array.getElem?_toList] at ho
    by_cases he : ef.contains i = true
    · rw [if_pos he] at hp1 h
      have hr : Region.ready .any ops l = [i] := by simpa using hp1
      have hil : i < l.size := by
        have h0 := (mem_ready (md := .any) (ops := ops) (listed := l) (j := i)).1 (by rw [hr]; simp)
        rcases Nat.lt_or_ge i l.size with h' | h'
        · exact h'
        · have := h0.1; simp [Array.getElem?_eq_none h'] at this
      refine ⟨fun h0 => absurd (hr ▸ h0) (by simp), fun j hj => ?_⟩
      obtain rfl : j = i := by rw [hr] at hj; simpa using hj
      have hb : (!l.getD z true && j != z) = !(l.setIfInBounds j true).getD z true := by
        by_cases hjz : j = z
        · subst hjz; simp [hil]
        · rw [getD_set_ne true hjz]; simp [hjz]
      rw [hb] at h
      refine wpOp_step ho (fun K' hK => h K' (fun a' w' hS' hW => hK a' w' ⟨fun hz => hS' (by simp only [hz, Bool.not_false]), ih _ _ _ hp2 (fun hz => hS' (by simp only [hz, Bool.not_false])) hW⟩))
    · rw [if_neg he] at hp1 h
      simp only [Bool.and_eq_true] at hp1
      obtain ⟨⟨⟨hiz, hf⟩, hr⟩, hrd⟩ := hp1
      have hiz : i ≠ z := by simpa using hiz
      obtain ⟨v, hy, h⟩ := h
      by_cases hri : rd.contains i = true
      · rw [if_pos hri] at hy
        rw [hri] at hrd
        simp only [Bool.not_true, Bool.false_or, Bool.and_eq_true] at hrd
        obtain ⟨hzl, hoz⟩ := hrd
        have hzl : l.getD z true = false := by simpa using hzl
        split at hoz
        · rename_i oz hz
          obtain ⟨q, hq, he2⟩ := Array.any_eq_true.1 hoz
          simp only [Bool.and_eq_true, beq_iff_eq] at he2
          refine wpAnyZ_first ho (Region.noSelect_spec hs) (fun c a w => hQ c o.dst v a w) hiz hz ⟨oz.after[q], by simp, he2.1, he2.2⟩ _ _ _ _ (Region.free_spec ho hf) (by simpa using hr) hy (hS hzl) hzl (ih _ _ _ hp2 (fun _ => hS hzl) ?_)
          rw [getD_set_ne true hiz]; exact h
        · cases hoz
      · rw [if_neg hri] at hy
        refine wpAnyZ_any ho (Region.noSelect_spec hs) (fun c a w => hQ c o.dst v a w) hiz _ _ _ _ (Region.free_spec ho hf) (by simpa using hr) hy hS (ih _ _ _ hp2 (fun hz => hS (by rw [getD_set_ne true hiz] at hz; exact hz)) ?_)
        rw [getD_set_ne true hiz]; exact h
theorem planZ_region {id : Nat} {a : Act} {w : World} (S : World → Prop) (ef rd plan : List Nat) (z : Nat) (hm : P.follows .mixedOrders = true)
    (hp : (Region.noSelect ops && plan.length == ops.size && decide (z < ops.size) && planZB ops ef rd z (Array.replicate ops.size false) plan) = true)
    (hQ : ∀ c d v a w, Q (.panic c) (a.put d v) w → Q (.panic c) a w) (hS : S w.drew) (h : PlanZ P ops Q S ef rd z true plan a w.drew) : (Code.region id ops true).wp P Q a w := by
  simp only [Bool.and_eq_true, beq_iff_eq, decide_eq_true_eq] at hp
  obtain ⟨⟨⟨h1, h2⟩, h4⟩, h3⟩ := hp
  refine wp_region_any hm ?_
  have := planZ_any (P := P) (Q := Q) (S := S) h1 hQ plan _ a w.drew h3 (fun _ => hS) (by simpa [h4] using h)
  rw [h2] at this
  exact wpAny_of_z _ _ _ _ this
/-- An operation that reads under S. -/
theorem PlanZ.read {b : Bool} {i : Nat} {r : List Nat} {o : Oper} {v : Value} {N : Option Tmp} {a : Act} {w : World} (ho : ops.toList[i]? = some o) (he : ef.contains i = false) (hr : rd.contains i = true) (hN : o.dst = N) (hw : Region.wanted o (yielded ops a.tmps) = true)
    (hv : ∀ w', S w' → (execOp a.eval o).run P w' = .ok (.value v) w') {a' : Act} (ha : a.put N v = a') (h : PlanZ P ops Q S ef rd z b r a' w) : PlanZ P ops Q S ef rd z b (i :: r) a w := by
  subst hN ha
  exact ⟨o, ho, by rw [if_neg (by rw [he]; simp), if_pos hr]; exact ⟨v, .inl ⟨hw, hv⟩, h⟩⟩
/-- An operation that yields in whatever world. -/
theorem PlanZ.any {b : Bool} {i : Nat} {r : List Nat} {o : Oper} {v : Value} {N : Option Tmp} {a : Act} {w : World} (ho : ops.toList[i]? = some o) (he : ef.contains i = false) (hr : rd.contains i = false) (hN : o.dst = N) (hw : Region.wanted o (yielded ops a.tmps) = true)
    (hv : ∀ w', (execOp a.eval o).run P w' = .ok (.value v) w') {a' : Act} (ha : a.put N v = a') (h : PlanZ P ops Q S ef rd z b r a' w) : PlanZ P ops Q S ef rd z b (i :: r) a w := by
  subst hN ha
  exact ⟨o, ho, by rw [if_neg (by rw [he]; simp), if_neg (by rw [hr]; simp)]; exact ⟨v, .inl ⟨hw, fun w' _ => hv w'⟩, h⟩⟩
/-- One of ef. -/
theorem PlanZ.eff {b : Bool} {i : Nat} {r : List Nat} {o : Oper} {a : Act} {w : World} (ho : ops.toList[i]? = some o) (he : ef.contains i = true) (hw : Region.wanted o (yielded ops a.tmps) = true)
    (h : ∀ K : Act → World → Prop, Hid (∀ a' w', ((b && i != z) = true → S w') → PlanZ P ops Q S ef rd z (b && i != z) r a' w' → K a' w') → Oper.wp P o a w K Q) : PlanZ P ops Q S ef rd z b (i :: r) a w :=
  ⟨o, ho, by rw [if_pos he]; exact fun K hK => by rw [if_pos hw]; exact h K (Lib.hid hK)⟩
end
end Go.Proofs.YtaokjpbgdehhiaaGreatDoor.B
