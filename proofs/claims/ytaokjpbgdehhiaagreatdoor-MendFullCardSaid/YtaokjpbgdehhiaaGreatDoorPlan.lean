/- A region that draws its order, walked in one planned order: what only reads yields the same in every world that meets S; the others (ef) come one at a time. -/
import Derived.OrdersHeld
import Derived.Deep.RegionHeld3
import Derived.RowKit
import Derived.Lib.Hide
namespace Go.Proofs.YtaokjpbgdehhiaaGreatDoor.B
open Go.RowKit

section
variable {P : Program} {ops : Array Oper} {Q : Exit → Act → World → Prop} {S : World → Prop} {ef : List Nat}

def planStep (ops : Array Oper) (ef : List Nat) (l : Array Bool) (i : Nat) : Bool :=
  if ef.contains i then Region.ready .any ops l == [i] else Region.free .any ops l i && (Region.ready .any ops l).contains i
def planB (ops : Array Oper) (ef : List Nat) : Array Bool → List Nat → Bool
  | l, [] => Region.ready .any ops l == []
  | l, i :: r => planStep ops ef l i && planB ops ef (l.setIfInBounds i true) r
/-- What is to be shown of the operations that are left. -/
def Plan (P : Program) (ops : Array Oper) (Q : Exit → Act → World → Prop) (S : World → Prop) (ef : List Nat) : List Nat → Act → World → Prop
  | [], a, w => Q .normal a w
  | i :: r, a, w => ∃ o, ops.toList[i]? = some o ∧
    if ef.contains i then ∀ K : Act → World → Prop, (∀ a' w', S w' → (S w' → Plan P ops Q S ef r a' w') → K a' w') → if Region.wanted o (yielded ops a.tmps) = true then Oper.wp P o a w K Q else K (a.put o.dst undef) w
    else ∃ v, YieldsIf P ops S o v a ∧ Plan P ops Q S ef r (a.put o.dst v) w
theorem plan_any (hs : Region.noSelect ops = true) (hQ : ∀ c d v a w, Q (.panic c) (a.put d v) w → Q (.panic c) a w) :
    ∀ (r : List Nat) (l : Array Bool) (a : Act) (w : World), planB ops ef l r = true → S w → Plan P ops Q S ef r a w → wpAnyH P .any ops Q S r.length l a w := by
  intro r
  induction r with
  | nil =>
    intro l a w hp _ h
    exact wpAnyH_done (by simpa [planB] using hp) h 0
  | cons i r ih =>
    intro l a w hp hS h
    simp only [planB, Bool.and_eq_true, planStep] at hp
    obtain ⟨hp1, hp2⟩ := hp
    obtain ⟨o, ho, h⟩ := h
    rw [Array.getElem?_toList] at ho
    by_cases he : ef.contains i = true
    · rw [if_pos he] at hp1 h
      have hr : Region.ready .any ops l = [i] := by simpa using hp1
      refine wpAnyH_all hr (by simp) (fun j hj => ?_)
      obtain rfl : j = i := by simpa using hj
      refine wpOp_step ho (fun K' hK => h K' (fun a' w' hS' hW => hK a' w' ⟨hS', ih _ _ _ hp2 hS' (hW hS')⟩))
    · rw [if_neg he] at hp1 h
      simp only [Bool.and_eq_true] at hp1
      obtain ⟨v, hy, h⟩ := h
      exact wpAnyH_take ho hs hp1.1 hp1.2 (fun c a w => hQ c o.dst v a w) hy hS (ih _ _ _ hp2 hS h)
theorem plan_region {id : Nat} {a : Act} {w : World} (S : World → Prop) (ef plan : List Nat) (hm : P.follows .mixedOrders = true) (hp : (Region.noSelect ops && plan.length == ops.size && planB ops ef (Array.replicate ops.size false) plan) = true)
    (hQ : ∀ c d v a w, Q (.panic c) (a.put d v) w → Q (.panic c) a w) (hS : S w.drew) (h : S w.drew → Plan P ops Q S ef plan a w.drew) : (Code.region id ops true).wp P Q a w := by
  simp only [Bool.and_eq_true, beq_iff_eq] at hp
  obtain ⟨⟨h1, h2⟩, h3⟩ := hp
  refine wp_region_held (S := S) hm ?_
  rw [← h2]
  exact plan_any h1 hQ plan _ a _ (by rw [h2]; exact h3) hS (h hS)
/-- An operation that reads at most. -/
theorem Plan.read {i : Nat} {r : List Nat} {o : Oper} {v : Value} {N : Option Tmp} {a : Act} {w : World} (ho : ops.toList[i]? = some o) (he : ef.contains i = false) (hN : o.dst = N) (hw : Region.wanted o (yielded ops a.tmps) = true)
    (hv : ∀ w', S w' → (execOp a.eval o).run P w' = .ok (.value v) w') {a' : Act} (ha : a.put N v = a') (h : Plan P ops Q S ef r a' w) : Plan P ops Q S ef (i :: r) a w := by
  subst hN ha
  exact ⟨o, ho, by rw [if_neg (by rw [he]; simp)]; exact ⟨v, .inl ⟨hw, hv⟩, h⟩⟩
/-- An operation whose guard is off. -/
theorem Plan.off {i : Nat} {r : List Nat} {o : Oper} {N : Option Tmp} {a : Act} {w : World} (ho : ops.toList[i]? = some o) (he : ef.contains i = false) (hN : o.dst = N) (hw : Region.wanted o (yielded ops a.tmps) = false)
    {a' : Act} (ha : a.put N undef = a') (h : Plan P ops Q S ef r a' w) : Plan P ops Q S ef (i :: r) a w := by
  subst hN ha
  exact ⟨o, ho, by rw [if_neg (by rw [he]; simp)]; exact ⟨undef, .inr ⟨hw, rfl⟩, h⟩⟩
/-- One of ef. -/
theorem Plan.eff {i : Nat} {r : List Nat} {o : Oper} {a : Act} {w : World} (ho : ops.toList[i]? = some o) (he : ef.contains i = true) (hw : Region.wanted o (yielded ops a.tmps) = true)
    (h : ∀ K : Act → World → Prop, Hid (∀ a' w', S w' → (S w' → Plan P ops Q S ef r a' w') → K a' w') → Oper.wp P o a w K Q) : Plan P ops Q S ef (i :: r) a w :=
  ⟨o, ho, by rw [if_pos he]; exact fun K hK => by rw [if_pos hw]; exact h K (Lib.hid hK)⟩
/-- One of ef whose guard is off. -/
theorem Plan.effOff {i : Nat} {r : List Nat} {o : Oper} {N : Option Tmp} {a : Act} {w : World} (ho : ops.toList[i]? = some o) (he : ef.contains i = true) (hN : o.dst = N) (hw : Region.wanted o (yielded ops a.tmps) = false) (hS : S w)
    {a' : Act} (ha : a.put N undef = a') (h : Plan P ops Q S ef r a' w) : Plan P ops Q S ef (i :: r) a w := by
  subst hN ha
  exact ⟨o, ho, by rw [if_pos he]; exact fun K hK => by rw [if_neg (by rw [hw]; simp)]; exact hK _ _ hS (fun _ => h)⟩
end
end Go.Proofs.YtaokjpbgdehhiaaGreatDoor.B
