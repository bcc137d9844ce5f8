/- The step machine: allocations that the world carries out later than the machine. -/
import Derived.Test.YthadnmpneonmfaaGreatDoorEvK
namespace Go.Ev
open Go Go.RowKit
noncomputable section
section ops
variable {P : Program} {w : World} {r : Ren}
/-- A block comes, of content ao; the value that comes with it is g of its number. -/
def AllocOut (P : Program) (r : Ren) (w : World) (s : Sem Value) (ao : AObj) (g : Nat → V) : Prop :=
  ∃ obj x, s.run P w = .ok x (w.alloc obj) ∧ ∀ (b : Nat) (r' : Ren), r.le r' → r'.at_ b = some w.heap.size → OR P r' (some obj) b ao ∧ VR r' (g b) x
theorem cells_or {r' : Ren} {vs : List V} {cs : Array Value} {elem b : Nat} (hv : VRs r vs cs.toList) (hl : r.le r') : OR P r' (some (.cells cs elem (0, 0))) b (.cells elem true false vs.length [] (sets vs .e 0)) := by
  refine ⟨cs, (0, 0), rfl, fun _ => no_fz _, fun i v hi => ?_, ?_, fun h => (by cases h)⟩
  · obtain ⟨x, hx, hr⟩ := hv.get (cellAt_new vs hi)
    exact ⟨x, by simpa using hx, hr.mono hl⟩
  · have := hv.length; simp at this; omega
theorem alloc_out {t : Nat} {z : V} (hz : zeroV P t = some z) : AllocOut P r w (Instr.alloc t true (.tuple #[])) (.cells t true false z.cells.length [] (sets z.cells .e 0)) (fun b => .ptr b 0) := by
  obtain ⟨i, zv, hi, hzv, _, hcs⟩ := zeroV_spec (r := r) hz
  exact ⟨_, _, by simp [Instr.alloc, run_zeroValue hi hzv, Result.andThen, newVar, alloc_run], fun b r' hl hb => ⟨cells_or hcs hl, .ptr _ 0 _ hb⟩⟩
theorem box_out {t : Nat} {v : V} {x : Value} {vc : List V} (hv : VR r v x) (hc : v.cellsO = some vc) : AllocOut P r w (Instr.box t x) (.cells t true false vc.length [] (sets vc .e 0)) (fun b => .ptr b 0) :=
  ⟨_, _, by simp [Instr.box, Result.andThen, newVar, alloc_run], fun b r' hl hb => ⟨cells_or (hv.cellsO hc) hl, .ptr _ 0 _ hb⟩⟩
theorem makeMap_out {t : Nat} : AllocOut P r w (Instr.makeMap t none) (.map [] 0) (fun b => .map b) :=
  ⟨.map #[] 0, .map (some w.heap.size), by simp [Instr.makeMap, Result.andThen], fun b r' _ hb => ⟨⟨#[], rfl, .nil⟩, .map _ _ hb⟩⟩
theorem buildSlice_out {t elem esz len : Nat} {g : Bool} {ps : List (Nat × V)} {xs : List (Nat × Value)} {z : V} {l : List V} (hs : sliceElem P t = some (elem, esz, g)) (hp : PRs r ps xs) (hpos : 0 < esz) (hz : zeroV P elem = some z)
    (hzl : z.cells.length = esz) (hsm : len * esz ≤ 16777216) (hf : fillL (fun i => some (Nat.mul i esz, esz)) (repl z.cells len []) ps = some l) :
    AllocOut P r w (Instr.buildSlice t len ⟨xs⟩) (.cells elem true false l.length [] (sets l .e 0)) (fun b => .sl b 0 len (.exact len)) := by
  obtain ⟨hu, ht⟩ := sliceElem_spec hs
  obtain ⟨_, hsz, _⟩ := tyI_spec ht
  obtain ⟨i, zv, hi, hzv, _, hcs⟩ := zeroV_spec (r := r) hz
  have hcl : zv.cells.size = esz := by rw [← hzl, hcs.length]; simp
  have hzeros : VRs r (repl z.cells len []) (((Array.range (len * esz)).map fun i => (if len * esz = 0 then #[] else zv.cells)[i % (if len * esz = 0 then #[] else zv.cells).size]!).toList) := by
    by_cases h0 : len * esz = 0
    · have : len = 0 := by rcases Nat.mul_eq_zero.1 h0 with h | h <;> omega
      subst this
      simp [repl]; exact .nil
    · rw [if_neg h0]
      refine VRs.of_get' (by rw [repl_length]; simp [hzl]) fun i v u hv hu' => ?_
      rw [repl_get] at hv
      split at hv
      · rename_i hlt
        obtain ⟨v', x, e1, e2, hvr⟩ := zeros_get hcs (by omega) (n := len * esz) (by rw [← hzl]; exact hlt)
        rw [hv] at e1; cases e1
        rw [Array.getElem?_toList] at hu'
        have hu2 := hu'
        rw [e2] at hu2; cases hu2
        exact hvr
      · cases hv
  obtain ⟨arr, e1, e2⟩ := fillL_ok (place' := fun i => some (i * esz, esz)) (fun i p hp => hp) hp hzeros hf
  refine ⟨.cells arr elem (0, 0), .slice (some ⟨w.heap.size, 0, none⟩) len len, ?_, fun b r' hl hb => ⟨cells_or e2 hl, .slx _ 0 _ _ _ hb⟩⟩
  by_cases h0 : len * esz = 0
  · simp only [h0, if_true] at e1
    simp [Instr.buildSlice, run_underlying hu, hsz, Result.andThen, h0, alloc_run] at e1 ⊢
    simp [e1, Result.andThen, alloc_run]
  · simp only [h0, if_false] at e1
    have hsm' : ¬ (len * esz > 2 ^ 24) := by omega
    simp [Instr.buildSlice, run_underlying hu, hsz, Result.andThen, h0, hsm', run_zeroValue hi hzv, e1, alloc_run]
theorem makeSlice_out {t elem esz l c by_ : Nat} {g : Bool} {z : V} {kl kc : IntKind} (hs : sliceElem P t = some (elem, esz, g)) (hpos : 0 < esz) (hz : zeroV P elem = some z) (hb : bytesT P elem = some by_)
    (hzl : z.cells.length = esz) (hlc : l ≤ c) (hsm : (c + 1) * (by_ + 1) ≤ 100000000) :
    AllocOut P r w (Instr.makeSlice t (.int kl (l : Int)) (.int kc (c : Int))) (.cells elem true false (c * esz) z.cells .e) (fun b => .sl b 0 l (.exact c)) := by
  obtain ⟨hu, ht⟩ := sliceElem_spec hs
  obtain ⟨_, hsz, _⟩ := tyI_spec ht
  obtain ⟨i, zv, hi, hzv, _, hcs⟩ := zeroV_spec (r := r) hz
  obtain ⟨i', hi', hby⟩ := bytesT_spec hb
  obtain rfl : i' = i := by rw [hi] at hi'; exact (Option.some.inj hi').symm
  have hcl : zv.cells.size = esz := by rw [← hzl, hcs.length]; simp
  have hc1 : c ≤ 100000000 := by
    have := Nat.le_mul_of_pos_right (c + 1) (show 0 < by_ + 1 by omega); omega
  have hbc : by_ * c ≤ 100000000 := by
    rw [Nat.mul_comm]
    exact Nat.le_trans (Nat.mul_le_mul (by omega) (by omega)) hsm
  have hbl : by_ * l ≤ 100000000 := Nat.le_trans (Nat.mul_le_mul_left _ hlc) hbc
  let arr : Array Value := (Array.range (c * esz)).map fun i => (if c * esz = 0 then #[] else zv.cells)[i % (if c * esz = 0 then #[] else zv.cells).size]!
  refine ⟨.cells arr elem, .slice (some ⟨w.heap.size, 0, none⟩) l c, ?_, fun b r' hle hb' => ⟨⟨arr, (0, 0), rfl, fun _ => no_fz _, fun i v hv => (by
      unfold cellAt at hv
      rw [T.get_e] at hv
      dsimp only at hv
      split at hv
      · rename_i hlt
        have hlt := Nat.le_of_ble_eq_true hlt
        have h0 : ¬ c * esz = 0 := by omega
        obtain ⟨v', x, e1, e2, hvr⟩ := zeros_get hcs (by omega) (n := c * esz) hlt
        have e3 : z.cells[i % z.cells.length]? = some v := by
          unfold zget at hv
          split at hv
          · cases hv
          · rename_i y hy; rw [hy]; simp [Nat.mod_one]; exact Option.some.inj hv
          · exact hv
        rw [e3] at e1; cases e1
        refine ⟨x, ?_, hvr.mono hle⟩
        show ((Array.range (c * esz)).map fun i => (if c * esz = 0 then #[] else zv.cells)[i % (if c * esz = 0 then #[] else zv.cells).size]!)[i]? = some x
        rw [if_neg h0]; exact e2
      · cases hv), by simp [arr], by simp⟩, .slx _ 0 _ _ _ hb'⟩⟩
  have n1 : ¬ (281474976710656 < (by_ : Int) * (c : Int)) := by
    have : ((by_ * c : Nat) : Int) ≤ 100000000 := by omega
    rw [Int.natCast_mul] at this; omega
  have n2 : ¬ ((c : Int) < 0) := by omega
  have n3 : ¬ ((l : Int) < 0) := by omega
  have n4 : ¬ ((c : Int) < (l : Int)) := by omega
  have w1 := i64_small hc1
  have w2 := i64_small (Nat.le_trans hlc hc1)
  by_cases h0 : c * esz = 0
  · simp [Instr.makeSlice, run_underlying hu, asInt, asIntOf, typeInfo, hi, hby, Result.andThen, w1, w2, n1, n2, n3, n4, hlc, hsz, h0, alloc_run, arr]
  · simp [Instr.makeSlice, run_underlying hu, asInt, asIntOf, typeInfo, hi, hby, Result.andThen, w1, w2, n1, n2, n3, n4, hlc, hsz, h0, alloc_run, arr, run_zeroValue hi hzv]
end ops
end
end Go.Ev
