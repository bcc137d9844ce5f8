/- Maps with texts as keys: what is looked up, what is stored. -/
import Derived.Test.YtaokjpbgdehhiaaGreatDoorBase
import Derived.MapKept
import Derived.ChangeMaps5
import Derived.Maps.Own
import Derived.Carry
namespace Go.Proofs.YtaokjpbgdehhiaaGreatDoor.B
open Go.RowKit

theorem beq_self (a : ByteArray) : (a == a) = true := (MapKept.bytes_beq a a).2 rfl
theorem beq_eq {a b : ByteArray} (h : (a == b) = true) : a = b := (MapKept.bytes_beq a b).1 h
theorem beq_ne {a b : ByteArray} (h : a ≠ b) : (a == b) = false := by
  cases e : (a == b)
  · rfl
  · exact absurd (beq_eq e) h

/-- An entry list with texts as keys. -/
def mget (m : List (ByteArray × Value)) (k : ByteArray) : Option Value := (m.find? (fun p => k == p.1)).map (·.2)
def mput (m : List (ByteArray × Value)) (k : ByteArray) (v : Value) : List (ByteArray × Value) :=
  match m with
  | [] => [(k, v)]
  | p :: r => if k == p.1 then (k, v) :: r else p :: mput r k v
theorem mget_mput_same (m : List (ByteArray × Value)) (k : ByteArray) (v : Value) : mget (mput m k v) k = some v := by
  induction m with
  | nil => simp only [mput, mget, List.find?_cons, beq_self]; rfl
  | cons p r ih =>
    unfold mput
    split
    · simp only [mget, List.find?_cons, beq_self]; rfl
    · rename_i h
      simp only [mget, List.find?_cons, h] at ih ⊢
      exact ih
theorem mget_mput_other (m : List (ByteArray × Value)) {k j : ByteArray} (v : Value) (h : (j == k) = false) : mget (mput m k v) j = mget m j := by
  induction m with
  | nil => simp only [mput, mget, List.find?_cons, h]
  | cons p r ih =>
    unfold mput
    split
    · rename_i e
      have e' : k = p.1 := beq_eq e
      simp only [mget, List.find?_cons, h]
      rw [← e', h]
    · simp only [mget, List.find?_cons] at ih ⊢
      cases hj : (j == p.1)
      · exact ih
      · rfl

/-- Block b is a map with just these entries, in this order. -/
def MapOf (w : World) (b : Nat) (m : List (ByteArray × Value)) : Prop :=
  ∃ es clock, w.heap[b]? = some (.map es clock) ∧ es.toList.map (fun e => (e.key, e.val)) = m.map (fun p => (Value.string p.1, p.2))

theorem MapOf.made (w : World) : MapOf (w.alloc (.map #[] 0)) w.heap.size [] := ⟨#[], 0, heap_alloc_new w _, rfl⟩
theorem MapOf.lt {w : World} {b : Nat} {m : List (ByteArray × Value)} (h : MapOf w b m) : b < w.heap.size := by
  obtain ⟨es, c, hb, _⟩ := h
  rcases Nat.lt_or_ge b w.heap.size with hlt | hge
  · exact hlt
  · rw [Array.getElem?_eq_none hge] at hb; cases hb
theorem MapOf.move {w w' : World} {b : Nat} {m : List (ByteArray × Value)} (h : MapOf w b m) (hb : w'.heap[b]? = w.heap[b]?) : MapOf w' b m := by
  obtain ⟨es, c, e, he⟩ := h
  exact ⟨es, c, hb.trans e, he⟩
theorem MapOf.below {w w' : World} {b : Nat} {m : List (ByteArray × Value)} (h : MapOf w b m) (hb : Below w.heap.size w w') : MapOf w' b m := h.move (hb.block b h.lt)
theorem MapOf.alloc {w : World} {b : Nat} {m : List (ByteArray × Value)} (h : MapOf w b m) (o : Obj) : MapOf (w.alloc o) b m := h.move (Below.heap_alloc w o b h.lt)
theorem MapOf.set {w : World} {b : Nat} {m : List (ByteArray × Value)} (h : MapOf w b m) {p : Addr} (hp : b ≠ p.block) (u : Value) : MapOf (w.setCell p u) b m := h.move (Below.heap_setCell w p u b hp)

section
variable {P : Program} {w : World} {b : Nat} {m : List (ByteArray × Value)} {t k e : TypeId}

theorem findNow_list (key : ByteArray) : ∀ (l : List MapEntry) (m : List (ByteArray × Value)) (i : Nat), l.map (fun e => (e.key, e.val)) = m.map (fun p => (Value.string p.1, p.2)) →
    ∃ r, Instr.findNow .string (.string key) l i = some r ∧ r.map (·.2) = mget m key ∧ (∀ q v, r = some (q, v) → ∃ j, q = i + j ∧ (l[j]?).map (·.key) = some (.string key) ∧ ∀ v' : Value, (l.modify j fun e => { e with key := .string key, val := v' }).map (fun e => (e.key, e.val)) = (mput m key v').map (fun p => (Value.string p.1, p.2))) ∧
      (r = none → ∀ v', mput m key v' = m ++ [(key, v')])
  | [], m, i, h => by
    have : m = [] := by simpa using h.symm
    subst this
    exact ⟨none, rfl, rfl, fun _ _ h => (by cases h), fun _ _ => rfl⟩
  | x :: l, m, i, h => by
    cases m with
    | nil => simp at h
    | cons p r =>
      simp only [List.map_cons, List.cons.injEq, Prod.mk.injEq] at h
      obtain ⟨⟨hk, hv⟩, ht⟩ := h
      unfold Instr.findNow
      rw [hk]
      simp only [Instr.sameNow]
      cases hb : (key == p.1)
      · obtain ⟨q, e1, e2, e3, e4⟩ := findNow_list key l r (i + 1) ht
        refine ⟨q, e1, ?_, fun q' v hq => ?_, fun hq v' => ?_⟩
        · rw [e2]; simp [mget, hb]
        · obtain ⟨j, rfl, hkey, hm⟩ := e3 q' v hq
          refine ⟨j + 1, by omega, by simpa using hkey, fun v' => ?_⟩
          simp only [List.modify_succ_cons, List.map_cons, mput, hb, Bool.false_eq_true, if_false, hm v', hk, hv]
        · simp only [mput, hb, Bool.false_eq_true, if_false, e4 hq v', List.cons_append]
      · refine ⟨some (i, x.val), rfl, ?_, fun q v hq => ?_, fun hq => by cases hq⟩
        · simp [mget, hb, hv]
        · simp only [Option.some.injEq, Prod.mk.injEq] at hq
          have hkp : key = p.1 := beq_eq hb
          refine ⟨0, by omega, by simp [hk, hkp], fun v' => ?_⟩
          simp [mput, hb, ht]

theorem isKey (s : ByteArray) : MapKept.IsKey .string (.string s) := trivial
theorem run_check (hk : P.underlying k = some .string) (x : Bool) (s : ByteArray) : (Instr.checkKey x 10000 k (.string s)).run P w = .ok () w := MapKept.run_checkKey hk (isKey s) x 9999
theorem run_findKey (hk : P.underlying k = some .string) {key : ByteArray} {l : List MapEntry} {r : Option (Nat × Value)} (h : Instr.findNow .string (.string key) l 0 = some r) :
    (Instr.findKey k (.string key) l).run P w = .ok r w := by
  simp [Instr.findKey, run_underlying hk, h]

theorem run_lookup (h : MapOf w b m) (ht : P.underlying t = some (.map k e)) (hk : P.underlying k = some .string) {z : Value} (hz : (zeroValue e).run P w = .ok z w) (key : ByteArray) :
    (Instr.lookup t (.map (some b)) (.string key) false).run P w = .ok ((mget m key).getD z) w := by
  obtain ⟨es, c, hb, he⟩ := h
  obtain ⟨r, e1, e2, _⟩ := findNow_list key es.toList m 0 he
  cases r with
  | none => simp at e2; simp [Instr.lookup, run_underlying ht, MapKept.run_getObj_map hb, run_check hk, run_findKey hk e1, hz, Result.andThen, ← e2]
  | some q => simp at e2; simp [Instr.lookup, run_underlying ht, MapKept.run_getObj_map hb, run_check hk, run_findKey hk e1, Result.andThen, ← e2]
theorem run_lookup_ok (h : MapOf w b m) (ht : P.underlying t = some (.map k e)) (hk : P.underlying k = some .string) {z : Value} (hz : (zeroValue e).run P w = .ok z w) (key : ByteArray) :
    (Instr.lookup t (.map (some b)) (.string key) true).run P w = .ok (.tuple #[(mget m key).getD z, .bool (mget m key).isSome]) w := by
  obtain ⟨es, c, hb, he⟩ := h
  obtain ⟨r, e1, e2, _⟩ := findNow_list key es.toList m 0 he
  cases r with
  | none => simp at e2; simp [Instr.lookup, run_underlying ht, MapKept.run_getObj_map hb, run_check hk, run_findKey hk e1, hz, Result.andThen, ← e2]
  | some q => simp at e2; simp [Instr.lookup, run_underlying ht, MapKept.run_getObj_map hb, run_check hk, run_findKey hk e1, Result.andThen, ← e2]
theorem run_update (h : MapOf w b m) (ht : P.underlying t = some (.map k e)) (hk : P.underlying k = some .string) (key : ByteArray) (v : Value) :
    ∃ w', (Instr.mapUpdate t (.map (some b)) (.string key) v).run P w = .ok () w' ∧ MapOf w' b (mput m key v) ∧ w.grownBy w' (some b) := by
  obtain ⟨es, c, hb, he⟩ := h
  obtain ⟨r, e1, e2, e3, e4⟩ := findNow_list key es.toList m 0 he
  have hlt : b < w.heap.size := MapOf.lt ⟨es, c, hb, he⟩
  cases r with
  | none =>
    refine ⟨ChangeMaps.setBlock w b (.map (es.push { key := .string key, val := v, born := c }) (c + 1)), ?_, ?_, ?_⟩
    · simp [Instr.mapUpdate, run_underlying ht, MapKept.run_getObj_map hb, run_check hk, run_findKey hk e1, MapKept.run_setObj_map _ hb, Result.andThen]
      rfl
    · refine ⟨_, _, ChangeMaps.heap_setBlock_same hb _, ?_⟩
      rw [e4 rfl v, Array.toList_push, List.map_append, he, List.map_append]
      rfl
    · exact ⟨rfl, rfl, rfl, by simp [ChangeMaps.setBlock], fun i _ hi => ChangeMaps.heap_setBlock_other hb _ (fun e => hi (by rw [e]))⟩
  | some q =>
    obtain ⟨i, u⟩ := q
    obtain ⟨j, hj, hkey, hm⟩ := e3 i u rfl
    obtain rfl : i = j := by omega
    have hx : (es[i]?).map (·.key) = some (.string key) := by rw [← Array.getElem?_toList]; exact hkey
    refine ⟨ChangeMaps.setBlock w b (.map (es.modify i fun e => { e with key := .string key, val := v }) c), ?_, ?_, ?_⟩
    · simp [Instr.mapUpdate, run_underlying ht, MapKept.run_getObj_map hb, run_check hk, run_findKey hk e1, hx, MapKept.run_keyThatStays (isKey key), MapKept.run_setObj_map _ hb, Result.andThen]
      rfl
    · refine ⟨_, _, ChangeMaps.heap_setBlock_same hb _, ?_⟩
      rw [Array.toList_modify, hm v]
    · exact ⟨rfl, rfl, rfl, by simp [ChangeMaps.setBlock], fun i _ hi => ChangeMaps.heap_setBlock_other hb _ (fun e => hi (by rw [e]))⟩
end

/-- 'm[k] = v' for the walk. -/
theorem wpList_mapSet {P : Program} (w : World) {ops : Array Oper} {rest : List Oper} {o : Oper} {a : Act} {Q : Exit → Act → World → Prop}
    (hg : o.guard = none) (mm x v : Operand) (t : TypeId) (hop : o.op = Op.mapUpdate t mm x v)
    (k e : TypeId) (ht : P.underlying t = some (.map k e)) (hk : P.underlying k = some .string) (b : Nat) (m : List (ByteArray × Value))
    (hm : a.eval mm = .map (some b)) (hown : MapOf w b m) (key : ByteArray) (val : Value) (hx : a.eval x = .string key) (hv : a.eval v = val)
    (hK : ∀ w', MapOf w' b (mput m key val) → w.grownBy w' (some b) → wpList P ops Q rest (a.put o.dst undef) w') :
    wpList P ops Q (o :: rest) a w := by
  refine wpList_plain hg fun K' hK' => ?_
  obtain ⟨w', hrun, r1, r2⟩ := run_update hown ht hk key val
  unfold Oper.wp
  simp [execOp, hop, hm, hx, hv, hrun, Result.andThen]
  exact hK' _ _ (hK w' r1 r2)
end Go.Proofs.YtaokjpbgdehhiaaGreatDoor.B
