/- The step machine: operations that lay a block, carried out by the world later than by the machine. -/
import Derived.Test.YthadnmpneonmfaaGreatDoorEvS
import Derived.Test.YthadnmpneonmfaaGreatDoorEvKA
namespace Go.Ev
open Go Go.RowKit
noncomputable section
section ops
variable {P : Program} {tm : Nat → Option V} {h : H}
theorem newK_eq {β : Type} (h : H) (elem : Nat) (opn : Bool) (vs : List V) (k : Nat → H → β) : newK h elem opn vs k = k h.nx ⟨h.t.set h.nx (.cells elem true opn vs.length [] (sets vs .e 0)), h.nx + 1⟩ := by
  unfold newK
  rw [setsK_eq, natK_eq, natK_eq, T.setK_eq]
theorem newObjK_eq {β : Type} (h : H) (o : AObj) (k : Nat → H → β) : newObjK h o k = k h.nx ⟨h.t.set h.nx o, h.nx + 1⟩ := by
  unfold newObjK
  rw [natK_eq, T.setK_eq]
/-- A block comes, by an operation. -/
def LayOut (P : Program) (r : Ren) (w : World) (s : Sem Next) (ao : AObj) (g : Nat → V) : Prop :=
  ∃ obj x, s.run P w = .ok (.value x) (w.alloc obj) ∧ ∀ (b : Nat) (r' : Ren), r.le r' → r'.at_ b = some w.heap.size → OR P r' (some obj) b ao ∧ VR r' (g b) x
theorem AllocOut.lay {r : Ren} {w : World} {s : Sem Value} {t : Sem Next} {ao : AObj} {g : Nat → V} (ha : AllocOut P r w s ao g) (ht : ∀ x w', s.run P w = .ok x w' → t.run P w = .ok (.value x) w') : LayOut P r w t ao g := by
  obtain ⟨obj, x, h1, h2⟩ := ha
  exact ⟨obj, x, ht _ _ h1, h2⟩
theorem lays_ok {o : Oper} (hl : lays o = true) {kv : V → H → Option S} {kc kr : Nat → List V → Option S} {kd : AD → Option S} {kn : Option S} {res : S} (hk : actK P tm h o none kv kc kr kd kn = some res) :
    ∃ ao g, kv (g h.nx) ⟨h.t.set h.nx ao, h.nx + 1⟩ = some res ∧ ∀ (r : Ren) (w : World) (ρ : Operand → Value), ER r tm ρ → LayOut P r w (execOp ρ o) ao g := by
  obtain ⟨dst, op, type, pos, after, guard⟩ := o
  cases op with
  | alloc t =>
    simp only [actK] at hk
    split at hk
    · rename_i z hz
      rw [nfsK_eq, newK_eq] at hk
      exact ⟨_, _, hk, fun r w ρ he => (alloc_out hz).lay fun x w' hx => exec_v hx⟩
    · cases hk
  | box t x =>
    simp only [actK] at hk
    split at hk
    · rename_i v hv
      split at hk
      · cases hk
      rename_i vc hvc
      rw [nfsK_eq, newK_eq] at hk
      exact ⟨_, _, hk, fun r w ρ he => (box_out (he _ _ hv) hvc).lay fun x w' hx => exec_v hx⟩
    · cases hk
  | buildSlice t len parts =>
    simp only [actK] at hk
    split at hk
    · rename_i elem esz g hs
      split at hk
      · rename_i ps hps
        split at hk
        · cases hk
        · split at hk
          · rename_i z hz
            split at hk
            · cases hk
            · rename_i hzl
              split at hk
              · rename_i hsm
                split at hk
                · rename_i l hl'
                  rw [nfsK_eq, newK_eq] at hk
                  simp only [natK_eq] at hk
                  refine ⟨_, fun c => .sl c 0 len (.exact len), hk, fun r w ρ he => AllocOut.lay (buildSlice_out hs (evParts_ok he hps) (by omega) hz (Nat.eq_of_beq_eq_true hzl) (Nat.le_of_ble_eq_true hsm) hl') fun x w' hx => ?_⟩
                  refine exec_v ?_
                  rw [← hx]; congr 2
                  exact map_parts parts
                · cases hk
              · cases hk
          · cases hk
      · cases hk
    · cases hk
  | makeSlice t l c =>
    simp only [actK] at hk
    split at hk
    · rename_i kl l' hl1
      split at hk
      · rename_i kc' c' hc
        split at hk
        · rename_i elem esz g hs
          split at hk
          · cases hk
          · split at hk
            · rename_i z hz
              split at hk
              · rename_i by_ hby
                split at hk
                · cases hk
                · rename_i hzl
                  split at hk
                  · cases hk
                  · rename_i hlc
                    split at hk
                    · cases hk
                    · rename_i hsm
                      rw [nfsK_eq, natK_eq, natK_eq, natK_eq, newObjK_eq] at hk
                      refine ⟨_, fun b => .sl b 0 l' (.exact c'), hk, fun r w ρ he => AllocOut.lay (makeSlice_out (kl := kl) (kc := kc') hs (by omega) hz hby (Nat.eq_of_beq_eq_true hzl) (Nat.le_of_ble_eq_true hlc) (small_spec hsm)) fun x w' hx => exec_v ?_⟩
                      rw [(he _ _ hl1).int_inv, (he _ _ hc).int_inv]
                      exact hx
              · cases hk
            · cases hk
        · cases hk
      · cases hk
    · cases hk
  | makeMap t r =>
    cases r with
    | none =>
      simp only [actK] at hk
      rw [newObjK_eq] at hk
      exact ⟨_, fun b => .map b, hk, fun r w ρ he => makeMap_out.lay fun x w' hx => exec_v hx⟩
    | some x => cases hl
  | _ => cases hl
end ops
end
end Go.Ev
