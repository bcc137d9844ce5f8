/- The step machine: operations that act. -/
import Derived.Test.YthadnmpneonmfaaGreatDoorEvJ
namespace Go.Ev
open Go Go.RowKit
noncomputable section
section ops
variable {P : Program} {w0 : Base} {w : World} {r : Ren} {h : H} {tm : Nat → Option V} {ρ : Operand → Value}

/-- A value comes out, and what the machine goes on with stands for it. -/
def ValOut {β : Type} (P : Program) (w0 : Base) (r : Ren) (w : World) (s : Sem Value) (kv : V → H → Option β) (res : β) : Prop :=
  ∃ v h' r' x w', HR P w0 r' h' w' ∧ r.le r' ∧ VR r' v x ∧ s.run P w = .ok x w' ∧ kv v h' = some res
variable {β : Type} {kv : V → H → Option β} {res : β}

theorem alloc_run (w : World) (e : Nat) (c : Array Value) : (newRow e c).run P w = .ok ⟨w.heap.size, 0, none⟩ (w.alloc (.cells c e)) := by simp [newRow, Result.andThen]
theorem no_fz (n : Nat) : ∀ i, i < n → ¬ (((0, 0) : Nat × Nat).1 ≤ i ∧ i < ((0, 0) : Nat × Nat).2) := fun i _ => by simp
theorem alloc_ok (hr : HR P w0 r h w) {t : Nat} {z : V} (hz : zeroV P t = some z) (hk : newK h t false z.cells (fun c h => kv (.ptr c 0) h) = some res) : ValOut P w0 r w (Instr.alloc t true (.tuple #[])) kv res := by
  obtain ⟨i, zv, hi, hzv, _, hcs⟩ := zeroV_spec (r := r) hz
  obtain ⟨h', r', h1, h2, h3, _, h5⟩ := newK_ok (xs := zv.cells) (kcap := 0) (fz := (0, 0)) hr hcs (fun i x hx => by simpa using hx) (by rw [hcs.length]; simp) (no_fz _) (by simp) hk
  exact ⟨_, h', r', _, _, h1, h2, .ptr _ 0 _ h3, by simp [Instr.alloc, run_zeroValue hi hzv, Result.andThen, newVar, alloc_run], h5⟩
theorem box_ok (hr : HR P w0 r h w) {t : Nat} {v : V} {x : Value} {vc : List V} (hv : VR r v x) (hc : v.cellsO = some vc) (hk : newK h t false vc (fun c h => kv (.ptr c 0) h) = some res) : ValOut P w0 r w (Instr.box t x) kv res := by
  have hcs := hv.cellsO hc
  obtain ⟨h', r', h1, h2, h3, _, h5⟩ := newK_ok (xs := x.cells) (kcap := 0) (fz := (0, 0)) hr hcs (fun i x hx => by simpa using hx) (by rw [hcs.length]; simp) (no_fz _) (by simp) hk
  exact ⟨_, h', r', _, _, h1, h2, .ptr _ 0 _ h3, by simp [Instr.box, Result.andThen, newVar, alloc_run], h5⟩
theorem store_ok (hr : HR P w0 r h w) {t b off c n : Nat} {g : Bool} {v : V} {x : Value} {vc : List V} (hcat : r.at_ b = some c) (hv : VR r v x) (hc : v.cellsO = some vc) (ht : tyI P t = some (g, n)) (hlen : vc.length = n)
    (hk : storeK h b off vc none (fun h => kv (.tup []) h) = some res) : ∃ h' w', HR P w0 r h' w' ∧ (Instr.storeAt t (.pointer (some ⟨c, off, none⟩)) x).run P w = .ok () w' ∧ kv (.tup []) h' = some res := by
  have hcs := hv.cellsO hc
  obtain ⟨h', w', h1, h2, h3, _⟩ := storeK_ok hr hcat hcs hk
  refine ⟨h', w', h1, ?_, h3⟩
  have hs : x.cells.size = n := by rw [← hlen, hcs.length]; simp
  simp [Instr.storeAt, Instr.sureAddr, storeVar, (tyI_spec ht).2.1, hs, Result.andThen, h2]
theorem repl_get (z : List V) : ∀ (n : Nat) (acc : List V) (i : Nat), (repl z n acc)[i]? = if i < n * z.length then z[i % z.length]? else acc[i - n * z.length]?
  | 0, acc, i => by simp [repl]
  | n + 1, acc, i => by
    rw [repl, repl_get z n]
    by_cases h1 : i < n * z.length
    · rw [if_pos h1, if_pos (by rw [Nat.add_mul]; omega)]
    · rw [if_neg h1]
      rw [Nat.add_mul, Nat.one_mul]
      by_cases h2 : i < n * z.length + z.length
      · rw [if_pos h2, List.getElem?_append_left (by omega)]
        congr 1
        have : i = z.length * n + (i - n * z.length) := by rw [Nat.mul_comm z.length n]; omega
        conv => rhs; rw [this, Nat.mul_add_mod]
        exact (Nat.mod_eq_of_lt (by omega)).symm
      · rw [if_neg h2, List.getElem?_append_right (by omega)]
        congr 1; omega
theorem repl_length (z : List V) : ∀ (n : Nat) (acc : List V), (repl z n acc).length = n * z.length + acc.length
  | 0, acc => by simp [repl]
  | n + 1, acc => by rw [repl, repl_length z n]; simp [Nat.add_mul]; omega
/-- The noughts of a new row. -/
theorem zeros_get {z : List V} {zv : Array Value} (hz : VRs r z zv.toList) (hp : 0 < z.length) {n i : Nat} (hi : i < n) : ∃ v x, z[i % z.length]? = some v ∧ ((Array.range n).map fun i => zv[i % zv.size]!)[i]? = some x ∧ VR r v x := by
  have hl : z.length = zv.size := by rw [hz.length]; simp
  have hlt : i % z.length < z.length := Nat.mod_lt _ hp
  obtain ⟨x, hx, hv⟩ := hz.get (List.getElem?_eq_getElem hlt)
  refine ⟨_, x, List.getElem?_eq_getElem hlt, ?_, hv⟩
  have hx' : zv[i % zv.size]? = some x := by rw [← hl]; simpa using hx
  have : zv[i % zv.size]! = x := by rw [getElem!_def, hx']
  simp [hi, this]
theorem buildSlice_ok (hr : HR P w0 r h w) {t elem esz len : Nat} {g : Bool} {ps : List (Nat × V)} {xs : List (Nat × Value)} {z : V} {l : List V} (hs : sliceElem P t = some (elem, esz, g)) (hp : PRs r ps xs) (hpos : 0 < esz) (hz : zeroV P elem = some z)
    (hzl : z.cells.length = esz) (hsm : len * esz ≤ 16777216) (hf : fillL (fun i => some (Nat.mul i esz, esz)) (repl z.cells len []) ps = some l) (hk : newK h elem false l (fun c h => kv (.sl c 0 len (.exact len)) h) = some res) :
    ValOut P w0 r w (Instr.buildSlice t len ⟨xs⟩) kv res := by
  obtain ⟨hu, ht⟩ := sliceElem_spec hs
  obtain ⟨_, hsz, _⟩ := tyI_spec ht
  obtain ⟨i, zv, hi, hzv, _, hcs⟩ := zeroV_spec (r := r) hz
  have hcl : zv.cells.size = esz := by rw [← hzl, hcs.length]; simp
  have hzeros : VRs r (repl z.cells len []) (((Array.range (len * esz)).map fun i => (if len * esz = 0 then #[] else zv.cells)[i % (if len * esz = 0 then #[] else zv.cells).size]!).toList) := by
    by_cases h0 : len * esz = 0
    · have : len = 0 := by rcases Nat.mul_eq_zero.1 h0 with h | h <;> omega
      subst this
      simp [repl]; exact .nil
    · rw [if_neg h0]
      refine VRs.of_get' (by rw [repl_length]; simp [hzl]) fun i v u hv hu' => ?_
      rw [repl_get] at hv
      split at hv
      · rename_i hlt
        obtain ⟨v', x, e1, e2, hvr⟩ := zeros_get hcs (by omega) (n := len * esz) (by rw [← hzl]; exact hlt)
        rw [hv] at e1; cases e1
        rw [Array.getElem?_toList] at hu'
        have hu2 := hu'
        rw [e2] at hu2; cases hu2
        exact hvr
      · cases hv
  obtain ⟨arr, e1, e2⟩ := fillL_ok (place' := fun i => some (i * esz, esz)) (fun i p hp => hp) hp hzeros hf
  obtain ⟨h', r', h1, h2, h3, _, h5⟩ := newK_ok (xs := arr) (kcap := 0) (fz := (0, 0)) hr e2 (fun i x hx => by simpa using hx) (by rw [e2.length]; simp) (no_fz _) (by simp) hk
  refine ⟨_, h', r', _, _, h1, h2, .slx _ 0 _ _ _ h3, ?_, h5⟩
  by_cases h0 : len * esz = 0
  · simp only [h0, if_true] at e1
    simp [Instr.buildSlice, run_underlying hu, hsz, Result.andThen, h0, alloc_run] at e1 ⊢
    simp [e1, Result.andThen, alloc_run]
  · simp only [h0, if_false] at e1
    have hsm' : ¬ (len * esz > 2 ^ 24) := by omega
    simp [Instr.buildSlice, run_underlying hu, hsz, Result.andThen, h0, hsm', run_zeroValue hi hzv, e1, alloc_run]
theorem small_spec {n : Nat} (h : small n = true) : n ≤ 100000000 := Nat.le_of_ble_eq_true h
theorem i64_small {n : Nat} (h : n ≤ 100000000) : IntKind.i64.wrap (n : Int) = n := by rw [← wrapF_eq]; show adj .i64 (n % 18446744073709551616) = _; rw [Nat.mod_eq_of_lt (by omega)]; unfold adj; simp only [IntKind.signed]; rw [show Nat.ble (halfK .i64) n = false by rw [Bool.eq_false_iff]; intro h'; have := Nat.le_of_ble_eq_true h'; simp [halfK] at this; omega]; rfl
theorem bytesT_spec {t n : Nat} (h : bytesT P t = some n) : ∃ i, P.info? t = some i ∧ i.bytes = n := by
  unfold bytesT at h
  split at h
  · rename_i i hi; exact ⟨i, hi, Option.some.inj h⟩
  · cases h
theorem makeSlice_ok (hr : HR P w0 r h w) {t elem esz l c by_ : Nat} {g : Bool} {z : V} {kl kc : IntKind} (hs : sliceElem P t = some (elem, esz, g)) (hpos : 0 < esz) (hz : zeroV P elem = some z) (hb : bytesT P elem = some by_)
    (hzl : z.cells.length = esz) (hlc : l ≤ c) (hsm : (c + 1) * (by_ + 1) ≤ 100000000) (hk : newObjK h (.cells elem true false (c * esz) z.cells .e) (fun b h => kv (.sl b 0 l (.exact c)) h) = some res) :
    ValOut P w0 r w (Instr.makeSlice t (.int kl (l : Int)) (.int kc (c : Int))) kv res := by
  obtain ⟨hu, ht⟩ := sliceElem_spec hs
  obtain ⟨_, hsz, _⟩ := tyI_spec ht
  obtain ⟨i, zv, hi, hzv, _, hcs⟩ := zeroV_spec (r := r) hz
  obtain ⟨i', hi', hby⟩ := bytesT_spec hb
  obtain rfl : i' = i := by rw [hi] at hi'; exact (Option.some.inj hi').symm
  have hcl : zv.cells.size = esz := by rw [← hzl, hcs.length]; simp
  have hc1 : c ≤ 100000000 := by
    have := Nat.le_mul_of_pos_right (c + 1) (show 0 < by_ + 1 by omega); omega
  have hbc : by_ * c ≤ 100000000 := by
    rw [Nat.mul_comm]
    exact Nat.le_trans (Nat.mul_le_mul (by omega) (by omega)) hsm
  have hbl : by_ * l ≤ 100000000 := Nat.le_trans (Nat.mul_le_mul_left _ hlc) hbc
  let arr : Array Value := (Array.range (c * esz)).map fun i => (if c * esz = 0 then #[] else zv.cells)[i % (if c * esz = 0 then #[] else zv.cells).size]!
  obtain ⟨h', r', h1, h2, h3, h5⟩ := newObjK_ok (o := .cells arr elem) (ao := .cells elem true false (c * esz) z.cells .e) hr ⟨arr, (0, 0), rfl, fun _ => no_fz _, fun i v hv => (by
      unfold cellAt at hv
      rw [T.get_e] at hv
      dsimp only at hv
      split at hv
      · rename_i hlt
        have hlt := Nat.le_of_ble_eq_true hlt
        have h0 : ¬ c * esz = 0 := by omega
        obtain ⟨v', x, e1, e2, hvr⟩ := zeros_get hcs (by omega) (n := c * esz) hlt
        have e3 : z.cells[i % z.cells.length]? = some v := by
          unfold zget at hv
          split at hv
          · cases hv
          · rename_i y hy; rw [hy]; simp [Nat.mod_one]; exact Option.some.inj hv
          · exact hv
        rw [e3] at e1; cases e1
        refine ⟨x, ?_, hvr.mono (Ren.ext_le hr.none_nx)⟩
        show ((Array.range (c * esz)).map fun i => (if c * esz = 0 then #[] else zv.cells)[i % (if c * esz = 0 then #[] else zv.cells).size]!)[i]? = some x
        rw [if_neg h0]; exact e2
      · cases hv), by simp [arr], by simp⟩ hk
  refine ⟨_, h', r', _, _, h1, h2, .slx _ 0 _ _ _ h3, ?_, h5⟩
  have n1 : ¬ (281474976710656 < (by_ : Int) * (c : Int)) := by
    have : ((by_ * c : Nat) : Int) ≤ 100000000 := by omega
    rw [Int.natCast_mul] at this; omega
  have n2 : ¬ ((c : Int) < 0) := by omega
  have n3 : ¬ ((l : Int) < 0) := by omega
  have n4 : ¬ ((c : Int) < (l : Int)) := by omega
  have w1 := i64_small hc1
  have w2 := i64_small (Nat.le_trans hlc hc1)
  by_cases h0 : c * esz = 0
  · simp [Instr.makeSlice, run_underlying hu, asInt, asIntOf, typeInfo, hi, hby, Result.andThen, w1, w2, n1, n2, n3, n4, hlc, hsz, h0, alloc_run, arr]
  · simp [Instr.makeSlice, run_underlying hu, asInt, asIntOf, typeInfo, hi, hby, Result.andThen, w1, w2, n1, n2, n3, n4, hlc, hsz, h0, alloc_run, arr, run_zeroValue hi hzv]
end ops
end
end Go.Ev
