/- The step machine's first memory: the two package-level variables, out of what the row lists. -/
import Derived.Test.YtaokjpbgdehhiaaGreatDoorRows
import Derived.Test.YtaokjpbgdehhiaaGreatDoorEvSt
import Derived.OpenShut
import Derived.ProofKit
namespace Go.Proofs.YtaokjpbgdehhiaaGreatDoor.K
open Go Go.ChangeShapes Go.WideShapes Go.ChangeAt Go.WideMaps Go.WideElems Go.RowKit

theorem ints_of_array {H : Type} {enc : TypeId × Value → H} {P : Program} {w : World} {base : Nat} {spare : Nat → Bool} {held : Bool} {fuel t e n : Nat} {k : IntKind} {cs : List Value} {x : DataW H × List MemPlace} {ns : List Int}
    (ht : P.underlying t = some (.array n e)) (hu : P.underlying e = some (.int k)) (hc : P.cellsOf e = 1) (hct : P.cellsOf t = n) (h : DataW.trod enc P w base spare held fuel t cs = some x)
    (hx : x.1 = .agg (ns.map fun n => .lit (.int k n))) : cs = ns.map (.int k) := by
  obtain ⟨xs, m, _, rfl, hl, hxl, hel⟩ := DataW.trod_array ht h
  have hxs : xs.map (·.1) = ns.map fun n => .lit (.int k n) := by
    simpa using hx
  have hlen : ns.length = n := by
    have := congrArg List.length hxs
    simp at this; omega
  apply List.ext_getElem?
  intro i
  by_cases hi : i < n
  · have h1 := hel i hi
    rw [hc, Nat.mul_one, List.drop_eq_getElem_cons (by omega), List.take_succ_cons, List.take_zero] at h1
    obtain ⟨y, hy⟩ : ∃ y, xs[i]? = some y := ⟨_, List.getElem?_eq_getElem (by omega)⟩
    rw [hy] at h1
    obtain ⟨z, e2, e3, _⟩ := DataW.trod_int hu h1
    simp only [List.cons.injEq, and_true] at e2
    have h2 : (xs.map (·.1))[i]? = some (.lit (.int k z)) := by rw [List.getElem?_map, hy, e3]; rfl
    rw [hxs, List.getElem?_map] at h2
    cases hn : ns[i]? with
    | none => rw [hn] at h2; cases h2
    | some u =>
      rw [hn] at h2
      simp only [Option.map_some, Option.some.injEq, DataW.lit.injEq, Lit.int.injEq, true_and] at h2
      rw [List.getElem?_eq_getElem (by omega), e2, List.getElem?_map, hn, h2]; rfl
  · rw [List.getElem?_eq_none (by omega), List.getElem?_eq_none (by simp; omega)]

def tabN : List Int := [0, 274646895, 549293790, 820201905, 1098587580, 1361435347, 1640403810, 1905808397, 2197175160, 2460548119, 2722870694, 2987750089, 3280807620, 3553878443, 3811616794, 4084100981]
theorem tabNamed : Tryz.prog.globalNamed "larder/frame.table" = some 1 := by kernel_rfl
theorem tabType : (Tryz.prog.globals[1]?).map (·.type) = some 245 := by kernel_rfl
theorem cellsTab : Tryz.prog.cellsOf 245 = 16 := by kernel_rfl
theorem cellsU : Tryz.prog.cellsOf 75 = 1 := by kernel_rfl
theorem flNamed : Tryz.prog.globalNamed "larder/disk.flush" = some 0 := by kernel_rfl
theorem flType : (Tryz.prog.globals[0]?).map (·.type) = some 57 := by kernel_rfl
theorem cellsFl : Tryz.prog.cellsOf 57 = 129 := by kernel_rfl
theorem cellsBs : Tryz.prog.cellsOf 55 = 128 := by kernel_rfl
theorem cellsB : Tryz.prog.cellsOf 5 = 1 := by kernel_rfl
theorem cellsI : Tryz.prog.cellsOf 3 = 1 := by kernel_rfl
theorem bsType : Tryz.prog.underlying 55 = some (.array 128 5) := by kernel_rfl
theorem iType : Tryz.prog.underlying 3 = some (.int .i64) := by kernel_rfl
theorem bType : Tryz.prog.underlying 5 = some (.int .u8) := by kernel_rfl
theorem uType : Tryz.prog.underlying 75 = some (.int .u32) := by kernel_rfl
theorem tabUnd : Tryz.prog.underlying 245 = some (.array 16 75) := by kernel_rfl

theorem at_var {P : Program} {w : World} {n : String} {g : Nat} {cs : Array Value} (hg : P.globalNamed n = some g) (h : w.var? P n = some cs) : ∃ t fr, w.heap[g]? = some (.cells cs t fr) := by
  unfold World.var? at h
  rw [hg] at h
  simp only [Option.bind_some] at h
  split at h
  · rename_i cs' t fr hh
    cases h; exact ⟨t, fr, hh⟩
  · cases h
theorem laid_cells {W : World} (h : laidMetH Tryz.prog Rows.mendFullRow.laid W) :
    (∃ cs t fr, W.heap[0]? = some (.cells cs t fr) ∧ cs.toList = .int .i64 (-1) :: (List.replicate 128 (0 : Int)).map (.int .u8)) ∧
    (∃ cs t fr, W.heap[1]? = some (.cells cs t fr) ∧ cs.toList = tabN.map (.int .u32)) := by
  have h' : laidMet Tryz.prog [("larder/disk.flush", Rows.laid_larder_disk_flush), ("larder/frame.table", Rows.laid_larder_frame_table)] W := h
  obtain ⟨ps, ⟨g, t, cs, fuel, p, q, hg, ht, hvar, hd, ⟨g2, t2, cs2, fuel2, p2, q2, hg2, ht2, hvar2, hd2, _, _⟩, _⟩, _⟩ := h'
  obtain rfl := Option.some.inj (flNamed.symm.trans hg)
  obtain rfl := Option.some.inj (flType.symm.trans ht)
  obtain rfl := Option.some.inj (tabNamed.symm.trans hg2)
  obtain rfl := Option.some.inj (tabType.symm.trans ht2)
  constructor
  · obtain ⟨t, fr, hh⟩ := at_var flNamed hvar
    refine ⟨cs, t, fr, hh, ?_⟩
    obtain ⟨xs, m, _, hx, hl, hxl, hel⟩ := DataW.trod_struct Tryz.underlying57 hd
    have h0 : DataW.trod (fun _ => ()) Tryz.prog W 0 (fun _ => true) false m 3 ((cs.toList.drop 0).take (Tryz.prog.cellsOf 3)) = xs[0]? := hel 0 _ rfl
    have h1 : DataW.trod (fun _ => ()) Tryz.prog W 0 (fun _ => true) false m 55 ((cs.toList.drop 1).take (Tryz.prog.cellsOf 55)) = xs[1]? := hel 1 _ rfl
    rw [cellsI] at h0
    rw [cellsBs] at h1
    rw [cellsFl] at hl
    have hx2 : xs.map (·.1) = [.lit (.int .i64 (-1)), .agg ((List.replicate 128 (0 : Int)).map fun n => .lit (.int .u8 n))] := by
      have := (Prod.mk.inj hx).1
      unfold Rows.laid_larder_disk_flush at this
      injection this with this
      exact this.symm
    obtain ⟨y0, hy0⟩ : ∃ y, xs[0]? = some y := ⟨_, List.getElem?_eq_getElem (by rw [hxl]; decide)⟩
    obtain ⟨y1, hy1⟩ : ∃ y, xs[1]? = some y := ⟨_, List.getElem?_eq_getElem (by rw [hxl]; decide)⟩
    have e0 : (xs.map (·.1))[0]? = some y0.1 := by rw [List.getElem?_map, hy0]; rfl
    have e1 : (xs.map (·.1))[1]? = some y1.1 := by rw [List.getElem?_map, hy1]; rfl
    rw [hx2] at e0 e1
    rw [hy0] at h0
    rw [hy1] at h1
    obtain ⟨z, e2, e3, _⟩ := DataW.trod_int iType h0
    have hb := ints_of_array bsType bType cellsB cellsBs h1 (ns := List.replicate 128 0) (Option.some.inj e1).symm
    have hz : z = -1 := by
      rw [e3] at e0
      have e0' := (Option.some.inj e0).symm
      simpa using e0'
    subst hz
    have hsp : cs.toList = cs.toList.take 1 ++ cs.toList.drop 1 := (List.take_append_drop 1 _).symm
    have hdr : (cs.toList.drop 1).take 128 = cs.toList.drop 1 := List.take_of_length_le (by rw [List.length_drop, hl]; decide)
    rw [hsp]
    rw [hdr] at hb
    rw [hb]
    have e2' : cs.toList.take 1 = [.int .i64 (-1)] := e2
    rw [e2']; rfl
  · obtain ⟨t, fr, hh⟩ := at_var tabNamed hvar2
    exact ⟨cs2, t, fr, hh, ints_of_array tabUnd uType cellsU cellsTab hd2 rfl⟩

open Go.Ev
/-- The names of the blocks that stand at the beginning. -/
def r0 : Ren := { at_ := fun b => if b < 500 then some b else none, cap := fun _ => 0 }
theorem vrs_ints {r : Ren} (k : IntKind) : ∀ (l : List Int), VRs r (l.map (V.int k)) (l.map (Value.int k))
  | [] => .nil
  | n :: l => .cons _ _ _ _ (.int k n) (vrs_ints k l)
theorem cells_ok {P : Program} {r : Ren} {b elem : Nat} {vs : List V} {cs : Array Value} {fz : Nat × Nat} (hv : VRs r vs cs.toList) :
    OR P r (some (.cells cs elem fz)) b (.cells elem false false vs.length [] (rowT vs)) := by
  refine ⟨cs, fz, rfl, fun h => (by cases h), fun i v hi => ?_, ?_, fun h => (by cases h)⟩
  · have e : rowT vs = sets vs T.e 0 := by unfold rowT; rw [setsK_eq]; rfl
    rw [e] at hi
    obtain ⟨x, hx, hr⟩ := hv.get (cellAt_new vs hi)
    exact ⟨x, by simpa using hx, hr⟩
  · have := hv.length; simp at this; omega
theorem h0_ok {P : Program} {W : World} {e0 e1 : Nat} {c0 c1 : Array Value} {f0 f1 : Nat × Nat} {v0 v1 : List V} (h0 : W.heap[0]? = some (.cells c0 e0 f0)) (h1 : W.heap[1]? = some (.cells c1 e1 f1))
    (g0 : VRs r0 v0 c0.toList) (g1 : VRs r0 v1 c1.toList) :
    HR P (base W) r0 ⟨layT [(0, .cells e0 false false v0.length [] (rowT v0)), (1, .cells e1 false false v1.length [] (rowT v1))], 1000⟩ W := by
  have e : ∀ (a b : AObj), layT [(0, a), (1, b)] = ((T.e : T AObj).set 0 a).set 1 b := fun a b => by
    unfold layT
    simp only [List.foldl_cons, List.foldl_nil, T.setK_eq, id]
  refine ⟨fun b o hb hl _ _ => ?_, fun b b' o o' c _ _ _ _ h2 h3 => ?_, fun b hb => ?_, fun g hg => ?_, Below.refl _ _, fun b o h => (by cases h), fun b c h => (by cases h), Nat.le_refl _, fun b c h1 h2 h3 => ?_, noFar⟩
  · rw [e, T.get_set] at hb
    split at hb
    · rename_i hb1; subst hb1; cases hb
      exact ⟨1, rfl, by rw [h1]; exact cells_ok g1, fun h => (by cases h)⟩
    · rw [T.get_set] at hb
      split at hb
      · rename_i hb0; subst hb0; cases hb
        exact ⟨0, rfl, by rw [h0]; exact cells_ok g0, fun h => (by cases h)⟩
      · rw [T.get_e] at hb; cases hb
  · simp only [r0] at h2 h3
    split at h2
    · split at h3
      · cases h2; cases h3; rfl
      · cases h3
    · cases h2
  · have hb : 1000 ≤ b := hb
    simp only [r0]; rw [if_neg (by omega)]
  · simp only [r0]; rw [if_pos hg]
  · simp only [r0] at h3; rw [if_neg (by omega)] at h3; cases h3
end Go.Proofs.YtaokjpbgdehhiaaGreatDoor.K
