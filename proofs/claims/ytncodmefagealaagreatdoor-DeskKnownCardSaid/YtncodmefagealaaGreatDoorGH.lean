/- Contracts of functions of the program, walked, and plain laws. -/
import Derived.Test.YtncodmefagealaaGreatDoorProg
import Derived.WalkKit
import Derived.LaidEql
import Derived.Stop.Asserts
import Derived.RowKitTokens
import Derived.Test.YtncodmefagealaaGreatDoorEvSu
import Derived.OpenShut
import Derived.ProofKit
/- errors.As at a *desk.Fault whose target is a **desk.Fault: true, the target set (after the kit's worked example ToyasAs). -/
namespace Go.Proofs.YtncodmefagealaaGreatDoor.K
open Go Go.RowKit Go.Extern.Stop Go.Stop Go.Extern
/-! ### CLOSED FACTS ON THE MODEL's ENTRIES FOR internal/reflectlite, at this program's types: 25: *p.E · 27: **p.E · 23: error · 45: reflectlite's rtype · 1: how many package-level variables the dump has -/
theorem AsvalueOf27 (t : Addr) (w : World) : (ReflectliteValue.unpack (.iface 38 (.pointer (some t)))).run Tryz.prog w
    = .ok (.agg #[.pointer (some ⟨37, 38, none⟩), .pointer (some ⟨w.heap.size, 0, none⟩), .int .u64 150]) (w.alloc (.cells #[.pointer (some t)] 38)) := by kernel_rfl
theorem Astype27 (a : Addr) (w : World) : (ReflectliteValue.methodAny (ReflectliteValue.valueError "reflectlite.Value.Type" 0) (fun t _ _ _ => ReflectliteType.toType t) #[.agg #[.pointer (some ⟨37, 38, none⟩), .pointer (some a), .int .u64 150]]).run Tryz.prog w
    = .ok (.iface 173 (.agg #[.pointer (some ⟨37, 38, none⟩)])) w := by kernel_rfl
theorem AsmethodKind (h : Value) (w : World) : (Go.method 863 173 (.agg #[h]) "Kind").run Tryz.prog w = .ok (642, h) w := by kernel_rfl
theorem Askind27 (w : World) : ((ReflectliteType.abiMethod fun t => (fun a : Nat => Value.int IntKind.u8 (a : Int)) <$> Rtype.kind t) #[.pointer (some ⟨37, 38, none⟩)]).run Tryz.prog w = .ok (.int .u8 22) w := by kernel_rfl
theorem Askind25 (w : World) : ((ReflectliteType.abiMethod fun t => (fun a : Nat => Value.int IntKind.u8 (a : Int)) <$> Rtype.kind t) #[.pointer (some ⟨37, 35, none⟩)]).run Tryz.prog w = .ok (.int .u8 22) w := by kernel_rfl

/-! ### THE ENTRIES THAT READ OR WRITE MEMORY: laws with a premise on the cell (after Derived/Lib/ReflectliteSlice.lean's manner: each unfolding a lemma of its own, by rfl) -/
theorem rlm (z : Sem Value) (f : TypeId → Addr → Nat → Nat → Sem Value) (v : Value) :
    ReflectliteValue.method z f #[v] = (do match ← ReflectliteValue.parts v with | none => z | some (t, a, fl) => f t a fl (fl % 32)) := rfl
theorem Asparts27 (a : Addr) (w : World) : (ReflectliteValue.parts (.agg #[.pointer (some ⟨37, 38, none⟩), .pointer (some a), .int .u64 150])).run Tryz.prog w = .ok (some (38, a, 150)) w := by kernel_rfl
/-- (Value).IsNil at the Value of a **p.E that is not nil. -/
theorem AsisNil27 (a p : Addr) (W : World) (ha : W.cell? a = some (.pointer (some p))) :
    (ReflectliteValue.method (ReflectliteValue.valueError "reflectlite.Value.IsNil" 0) ReflectliteValue.isNil #[.agg #[.pointer (some ⟨37, 38, none⟩), .pointer (some a), .int .u64 150]]).run Tryz.prog W = .ok (.bool false) W := by
  rw [rlm]
  simp only [Sem.run_bind, Asparts27, Result.andThen]
  simp [ReflectliteValue.isNil, loadVar, isAgg, underlying, Tryz.underlying38, ha, Result.andThen]

theorem AsmethodElem (h : Value) (w : World) : (Go.method 863 173 (.agg #[h]) "Elem").run Tryz.prog w = .ok (656, .agg #[h]) w := by kernel_rfl
theorem AsmethodImplements (h : Value) (w : World) : (Go.method 863 173 (.agg #[h]) "Implements").run Tryz.prog w = .ok (657, .agg #[h]) w := by kernel_rfl
theorem AsmethodAssignableTo (h : Value) (w : World) : (Go.method 863 173 (.agg #[h]) "AssignableTo").run Tryz.prog w = .ok (654, .agg #[h]) w := by kernel_rfl
theorem Aselem27 (w : World) : (ReflectliteType.method ReflectliteType.elem #[.agg #[.pointer (some ⟨37, 38, none⟩)]]).run Tryz.prog w = .ok (.iface 173 (.agg #[.pointer (some ⟨37, 35, none⟩)])) w := by kernel_rfl
theorem Asimplements25 (w : World) : (ReflectliteType.relation "Implements" ReflectliteType.implements_ #[.agg #[.pointer (some ⟨37, 35, none⟩)], .iface 173 (.agg #[.pointer (some ⟨37, 31, none⟩)])]).run Tryz.prog w = .ok (.bool true) w := by kernel_rfl
theorem AstypeOf25 (v : Value) (w : World) : (ReflectliteType.typeOf #[.iface 35 v]).run Tryz.prog w = .ok (.iface 173 (.agg #[.pointer (some ⟨37, 35, none⟩)])) w := by kernel_rfl
theorem Asassignable25 (w : World) : (ReflectliteType.relation "AssignableTo" ReflectliteType.assignableTo #[.agg #[.pointer (some ⟨37, 35, none⟩)], .iface 173 (.agg #[.pointer (some ⟨37, 35, none⟩)])]).run Tryz.prog w = .ok (.bool true) w := by kernel_rfl
theorem AsvalueOf25 (e : Addr) (w : World) : (ReflectliteValue.unpack (.iface 35 (.pointer (some e)))).run Tryz.prog w
    = .ok (.agg #[.pointer (some ⟨37, 35, none⟩), .pointer (some ⟨w.heap.size, 0, none⟩), .int .u64 150]) (w.alloc (.cells #[.pointer (some e)] 35)) := by kernel_rfl

theorem AselemOf27 (w : World) : (Rtype.elem? 38).run Tryz.prog w = .ok (some 35) w := by kernel_rfl
theorem Asmk25 (p : Addr) (w : World) : (ReflectliteValue.mk 35 p ReflectliteValue.flagAddr).run Tryz.prog w = .ok (.agg #[.pointer (some ⟨37, 35, none⟩), .pointer (some p), .int .u64 406]) w := by kernel_rfl
/-- (Value).Elem at the Value of a **p.E that is not nil: the Value of the *p.E variable that it points to, addressable. -/
theorem AselemV27 (a p : Addr) (W : World) (ha : W.cell? a = some (.pointer (some p))) :
    (ReflectliteValue.method (ReflectliteValue.valueError "reflectlite.Value.Elem" 0) ReflectliteValue.elem #[.agg #[.pointer (some ⟨37, 38, none⟩), .pointer (some a), .int .u64 150]]).run Tryz.prog W
      = .ok (.agg #[.pointer (some ⟨37, 35, none⟩), .pointer (some p), .int .u64 406]) W := by
  rw [rlm]
  simp only [Sem.run_bind, Asparts27, Result.andThen]
  simp [ReflectliteValue.elem, loadVar, isAgg, underlying, Tryz.underlying38, ha, Result.andThen, AselemOf27, Asmk25]
theorem rls (v x : Value) : ReflectliteValue.set #[v, x] = (do
    let (some (dst, a, fl), some (src, b, _)) := (← ReflectliteValue.parts v, ← ReflectliteValue.parts x)
      | unsupported (.noEntry "extern/(internal/reflectlite.Value).Set.zeroValue")
    if fl / ReflectliteValue.flagAddr % 2 == 0 then unsupported (.noEntry "extern/(internal/reflectlite.Value).Set.unaddressable")
    let val ← loadVar src b
    if ← Rtype.directlyAssignable dst src then storeVar dst a val
    else if ← Rtype.implements dst src then
      if (← Rtype.kind src) == 20 then
        match val with
        | .nilIface => unsupported (.noEntry "extern/reflectlite: a nil value of one interface type handed on as a value of another")
        | _ => storeVar dst a val
      else storeVar dst a (.iface src val)
    else panicString ("reflectlite.Set: value of type " ++ (← Rtype.spelt src) ++ " is not assignable to type " ++ (← Rtype.spelt dst))
    pure (.tuple #[])) := rfl
theorem Asparts25a (a : Addr) (w : World) : (ReflectliteValue.parts (.agg #[.pointer (some ⟨37, 35, none⟩), .pointer (some a), .int .u64 406])).run Tryz.prog w = .ok (some (35, a, 406)) w := by kernel_rfl
theorem Asparts25 (a : Addr) (w : World) : (ReflectliteValue.parts (.agg #[.pointer (some ⟨37, 35, none⟩), .pointer (some a), .int .u64 150])).run Tryz.prog w = .ok (some (35, a, 150)) w := by kernel_rfl
theorem Asdirect25 (w : World) : (Rtype.directlyAssignable 35 35).run Tryz.prog w = .ok true w := by kernel_rfl
theorem Assize25 (w : World) : (sizeOf 35).run Tryz.prog w = .ok 1 w := by kernel_rfl
/-- (Value).Set: the *p.E variable at 'ta' gets what the Value's own variable 'b' holds. -/
theorem Asset25 (ta b e : Addr) (old : Value) (W : World) (hb : W.cell? b = some (.pointer (some e))) (ht : W.cell? ta = some old) (hf : W.frozen? ta = false) :
    (ReflectliteValue.set #[.agg #[.pointer (some ⟨37, 35, none⟩), .pointer (some ta), .int .u64 406], .agg #[.pointer (some ⟨37, 35, none⟩), .pointer (some b), .int .u64 150]]).run Tryz.prog W
      = .ok (.tuple #[]) (W.setCell ta (.pointer (some e))) := by
  rw [rls]
  simp only [Sem.run_bind, Asparts25a, Asparts25, Result.andThen]
  simp [ReflectliteValue.flagAddr, loadVar, isAgg, underlying, Tryz.underlying35, hb, Result.andThen, Asdirect25, storeVar, Value.cells, storeCells, Addr.add]
  rw [run_store Tryz.prog W ta _ _ (by rfl)]
  simp [ht, hf]

set_option maxHeartbeats 4000000 in
theorem as_hit (e t : Addr) (old : Value) (w : World) (hg : w.cell? ⟨1, 0, none⟩ = some (.iface 173 (.agg #[.pointer (some ⟨37, 31, none⟩)]))) (ht0 : w.cell? t = some old) (hf0 : w.frozen? t = false) :
    Calls Tryz.prog 9 #[.iface 35 (.pointer (some e)), .iface 38 (.pointer (some t))] w fun ev w' => ev = .returned (.bool true) ∧ w' = ((((w.alloc (.cells #[.pointer (some t)] 38)).alloc (.cells #[.pointer (some ⟨37, 38, none⟩), .pointer (some ⟨w.heap.size, 0, none⟩), .int .u64 150] 79)).alloc (.cells #[.pointer (some ⟨37, 38, none⟩), .pointer (some ⟨w.heap.size, 0, none⟩), .int .u64 150] 79)).alloc (.cells #[.pointer (some e)] 35)).setCell t (.pointer (some e)) := by
  have h6 := @run_callFunc_extern Tryz.prog 21 _ (fun args => ReflectliteValue.unpack (args.getD 0 (.tuple #[]))) Tryz.func21 (by kernel_rfl) (by kernel_rfl) (by kernel_rfl) (by kernel_rfl)
  have h7 := @run_callFunc_extern Tryz.prog 22 _ (ReflectliteValue.methodAny (ReflectliteValue.valueError "reflectlite.Value.Type" 0) (fun t _ _ _ => ReflectliteType.toType t)) Tryz.func22 (by kernel_rfl) (by kernel_rfl) (by kernel_rfl) (by kernel_rfl)
  have h8 := @run_callFunc_extern Tryz.prog 23 _ (ReflectliteValue.method (ReflectliteValue.valueError "reflectlite.Value.IsNil" 0) ReflectliteValue.isNil) Tryz.func23 (by kernel_rfl) (by kernel_rfl) (by kernel_rfl) (by kernel_rfl)
  have h27 := @run_callFunc_extern Tryz.prog 642 _ (ReflectliteType.abiMethod fun t => do pure (.int .u8 (← Rtype.kind t))) Tryz.func642 (by kernel_rfl) (by kernel_rfl) (by kernel_rfl) (by kernel_rfl)
  have h37 := @run_callFunc_extern Tryz.prog 656 _ (ReflectliteType.method ReflectliteType.elem) Tryz.func656 (by kernel_rfl) (by kernel_rfl) (by kernel_rfl) (by kernel_rfl)
  have h38 := @run_callFunc_extern Tryz.prog 657 _ (ReflectliteType.relation "Implements" ReflectliteType.implements_) Tryz.func657 (by kernel_rfl) (by kernel_rfl) (by kernel_rfl) (by kernel_rfl)
  have h10 := @run_callFunc_extern Tryz.prog 19 _ ReflectliteType.typeOf Tryz.func19 (by kernel_rfl) (by kernel_rfl) (by kernel_rfl) (by kernel_rfl)
  have h35 := @run_callFunc_extern Tryz.prog 654 _ (ReflectliteType.relation "AssignableTo" ReflectliteType.assignableTo) Tryz.func654 (by kernel_rfl) (by kernel_rfl) (by kernel_rfl) (by kernel_rfl)
  have h11 := @run_callFunc_extern Tryz.prog 63 _ (ReflectliteValue.method (ReflectliteValue.valueError "reflectlite.Value.Elem" 0) ReflectliteValue.elem) Tryz.func63 (by kernel_rfl) (by kernel_rfl) (by kernel_rfl) (by kernel_rfl)
  have h12 := @run_callFunc_extern Tryz.prog 64 _ ReflectliteValue.set Tryz.func64 (by kernel_rfl) (by kernel_rfl) (by kernel_rfl) (by kernel_rfl)
  have tO := AstypeOf25
  have mA := AsmethodAssignableTo
  have a25 := Asassignable25
  have v25 := AsvalueOf25
  have f6 := AsvalueOf27
  have f7 := Astype27
  have mK := AsmethodKind
  have mE := AsmethodElem
  have mI := AsmethodImplements
  have k27 := Askind27
  have k25 := Askind25
  have e27 := Aselem27
  have i25 := Asimplements25
  have n8 := AsisNil27 ⟨w.heap.size, 0, none⟩ t ((w.alloc (.cells #[.pointer (some t)] 38)).alloc (.cells #[.pointer (some ⟨37, 38, none⟩), .pointer (some ⟨w.heap.size, 0, none⟩), .int .u64 150] 79)) (by simp)
  have hlt : 1 < w.heap.size := by
    rcases Nat.lt_or_ge 1 w.heap.size with h | h
    · exact h
    · simp [World.cell?, Array.getElem?_eq_none h] at hg
  have hg2 : ((w.alloc (.cells #[.pointer (some t)] 38)).alloc (.cells #[.pointer (some ⟨37, 38, none⟩), .pointer (some ⟨w.heap.size, 0, none⟩), .int .u64 150] 79)).cell? ⟨1, 0, none⟩ = some (.iface 173 (.agg #[.pointer (some ⟨37, 31, none⟩)])) := by
    rw [World.cell?_alloc_lt _ _ ⟨1, 0, none⟩ (by simp; omega), World.cell?_alloc_lt _ _ ⟨1, 0, none⟩ hlt]; exact hg
  have htl : t.block < w.heap.size := by
    rcases Nat.lt_or_ge t.block w.heap.size with h | h
    · exact h
    · simp [World.cell?, Array.getElem?_eq_none h] at ht0
  have el := AselemV27 ⟨w.heap.size, 0, none⟩ t (((w.alloc (.cells #[.pointer (some t)] 38)).alloc (.cells #[.pointer (some ⟨37, 38, none⟩), .pointer (some ⟨w.heap.size, 0, none⟩), .int .u64 150] 79)).alloc (.cells #[.pointer (some ⟨37, 38, none⟩), .pointer (some ⟨w.heap.size, 0, none⟩), .int .u64 150] 79)) (by rw [World.cell?_alloc_lt _ _ ⟨w.heap.size, 0, none⟩ (by simp; omega)]; simp)
  have st := Asset25 t ⟨w.heap.size + 1 + 1 + 1, 0, none⟩ e old ((((w.alloc (.cells #[.pointer (some t)] 38)).alloc (.cells #[.pointer (some ⟨37, 38, none⟩), .pointer (some ⟨w.heap.size, 0, none⟩), .int .u64 150] 79)).alloc (.cells #[.pointer (some ⟨37, 38, none⟩), .pointer (some ⟨w.heap.size, 0, none⟩), .int .u64 150] 79)).alloc (.cells #[.pointer (some e)] 35))
    (by rw [World.cell?_alloc_at _ _ _ _ (by simp)]; rfl)
    (by rw [World.cell?_alloc_lt _ _ t (by simp; omega), World.cell?_alloc_lt _ _ t (by simp; omega), World.cell?_alloc_lt _ _ t (by simp; omega), World.cell?_alloc_lt _ _ t htl]; exact ht0)
    (by rw [World.frozen?_alloc_old _ _ t (by simp; omega), World.frozen?_alloc_old _ _ t (by simp; omega), World.frozen?_alloc_old _ _ t (by simp; omega), World.frozen?_alloc_old _ _ t (Nat.ne_of_lt htl)]; exact hf0)
  go_enter Tryz.func9, Tryz.ntmps9
  go_wp2
  refine wp_loop_rounds 1 ?_
  rw [rounds_succ]
  go_wp2
  go_ret
  exact ⟨rfl, rfl⟩
end Go.Proofs.YtncodmefagealaaGreatDoor.K
/- The step machine goes over errors.As by what is proved of it. -/
namespace Go.Ev
open Go Go.RowKit
section
variable {P : Program} {w0 : Base} {w : World} {r : Ren} {h : H} {tail : List Frame}
theorem OR.grow {w w2 : World} (hb : Below w.heap.size w w2) {b c : Nat} {o : AObj} (h : OR P r w.heap[c]? b o) : OR P r w2.heap[c]? b o := by
  by_cases hc : c < w.heap.size
  · rw [hb.block c hc]; exact h
  · rw [Array.getElem?_eq_none (by omega)] at h
    cases o <;> first | exact trivial | (exfalso; simp [OR] at h)
/-- New blocks turn nothing. -/
theorem HR.grow {w2 : World} (hr : HR P w0 r h w) (hb : Below w.heap.size w w2) : HR P w0 r h w2 :=
  ⟨fun b o hg hl d hd => by
    obtain ⟨c, hc, hO, hge⟩ := hr.ob b o hg hl d hd
    exact ⟨c, hc, hO.grow hb, hge⟩, hr.inj, hr.fresh, hr.glob, hr.below.trans (hb.mono hr.below.size), hr.keep, hr.names, hr.low, hr.fars, hr.farok, hr.gsh, hr.nsh⟩
theorem storeK_bind {β : Type} {h : H} {b o : Nat} {vs : List V} {k : H → Option β} : storeK h b o vs none k = (storeK h b o vs none some).bind k := by
  unfold storeK
  cases h.t.get b with
  | none => rfl
  | some ob =>
    cases ob with
    | cells elem rw opn size z t =>
      cases rw with
      | false => rfl
      | true =>
        dsimp only
        cases (Nat.ble (Nat.add o vs.length) size && ones vs) with
        | false => rfl
        | true =>
          dsimp only
          rw [setsK_eq, T.setK_eq, setsK_eq, T.setK_eq]; rfl
    | _ => rfl
theorem storeK_at {h h' : H} {b o : Nat} {v : V} (e : storeK h b o [v] none some = some h') : ∃ elem opn size z t, h.t.get b = some (.cells elem true opn size z t) ∧ o + 1 ≤ size := by
  unfold storeK at e
  cases hb : h.t.get b with
  | none => rw [hb] at e; cases e
  | some ob =>
    rw [hb] at e
    cases ob with
    | cells elem rw opn size z t =>
      cases rw with
      | false => cases e
      | true =>
        dsimp only at e
        cases hs : (Nat.ble (Nat.add o [v].length) size && ones [v]) with
        | false => rw [hs] at e; cases e
        | true =>
          simp only [Bool.and_eq_true] at hs
          exact ⟨elem, opn, size, z, t, rfl, Nat.le_of_ble_eq_true hs.1⟩
    | _ => cases e
theorem To.cut {W : World} {a0 : Nat → Option Nat} {f0 : Nat → Option (Nat × Nat)} {f : Frame} {cs : List Frame} {s s1 : S} {kb kt : List Nat} (ht : To P W a0 f0 tail f cs w s) (hk : cutS kb kt s = some s1) : To P W a0 f0 tail f cs w s1 := by
  obtain ⟨pd, r, f', cs', w', h3, h4⟩ := ht
  exact ⟨pd, r, f', cs', w', h3, h4.cut hk⟩
theorem sc1 {W : World} {a e : Addr} {old : Value} (ht : W.cell? a = some old) (hf : W.frozen? a = false) : (storeCells a [.pointer (some e)]).run P W = .ok () (W.setCell a (.pointer (some e))) := by
  simp [storeCells, Addr.add]
  rw [run_store P W a _ _ (by rfl)]
  simp [ht, hf]
theorem below_alloc (w : World) (o : Obj) : Below w.heap.size w (w.alloc o) := ⟨rfl, rfl, rfl, by show w.heap.size ≤ (w.heap.push o).size; simp, fun k hk => by show (w.heap.push o)[k]? = w.heap[k]?; rw [Array.getElem?_push_lt hk, Array.getElem?_eq_getElem hk]⟩
end
end Go.Ev
namespace Go.Proofs.YtncodmefagealaaGreatDoor.K
open Go Go.RowKit Go.Ev
/-- errors.As in the step machine. -/
theorem as_to {W : World} {a0 : Nat → Option Nat} {f0 : Nat → Option (Nat × Nat)} {tail : List Frame} {f : Frame} {cs : List Frame} {w : World} {s s2 : S} {kb kt : List Nat} {b o b' o' : Nat} {mc : Nat × Code}
    (hW : W.cell? ⟨1, 0, none⟩ = some (.iface 173 (.agg #[.pointer (some ⟨37, 31, none⟩)])))
    (ht : To Tryz.prog W a0 f0 tail f cs w s) (hc : callI s = some (9, [.iface 35 (.ptr b o), .iface 38 (.ptr b' o')])) (hfn : fnI Tryz.prog 9 = some mc)
    (hk : (hookS s).bind (cutS kb kt) = some s2) : To Tryz.prog W a0 f0 tail f cs w s2 := by
  unfold hookS at hk
  rw [hc] at hk
  dsimp only at hk
  obtain ⟨s', h1, h2⟩ := Option.bind_eq_some_iff.1 hk
  rw [storeK_bind] at h1
  obtain ⟨h', e1, e2⟩ := Option.bind_eq_some_iff.1 h1
  refine (To.hook ht hc e2 hfn ?_).cut h2
  intro pd r w' xs hr hv
  cases hv with
  | cons v1 x1 l1 y1 hx1 hv1 =>
  cases hv1 with
  | cons v2 x2 l2 y2 hx2 hv2 =>
  cases hv2
  cases hx1 with
  | iface t1 v1 x1 hx1 =>
  cases hx2 with
  | iface t2 v2 x2 hx2 =>
  cases hx1 with
  | ptr b o c1 s1 hb1 hs1 =>
  cases hx2 with
  | ptr b' o' c2 s2 hb2 hs2 =>
  obtain ⟨elem, opn, size, z, t, hget, hle⟩ := storeK_at e1
  obtain ⟨cs', fz, g0, g1, _, g3, _, _⟩ := hr.cells hget hb2
  have hlt : s2 < cs'.size := by omega
  have hg' : w'.cell? ⟨1, 0, none⟩ = some (.iface 173 (.agg #[.pointer (some ⟨37, 31, none⟩)])) := by
    have hlow : 1 < W.heap.size := by
      rcases Nat.lt_or_ge 1 W.heap.size with h | h
      · exact h
      · simp [World.cell?, Array.getElem?_eq_none h] at hW
    have hbl := hr.below.block 1 hlow
    simp only [World.cell?] at hW ⊢
    rw [hbl]; exact hW
  have ht0 : w'.cell? ⟨c2, s2, none⟩ = some cs'[s2] := by
    simp [World.cell?, g0, hlt]
  have hf0 : w'.frozen? ⟨c2, s2, none⟩ = false := by
    have := g1 rfl s2 hlt
    simp only [World.frozen?, g0]
    rcases Nat.lt_or_ge s2 fz.1 with h | h
    · simp; omega
    · simp; omega
  refine (as_hit ⟨c1, s1, none⟩ ⟨c2, s2, none⟩ _ w' hg' ht0 hf0).mono ?_
  rintro ev w2 ⟨rfl, rfl⟩
  refine ⟨r, .bool true, rfl, r.le_refl, .bool true, ?_⟩
  generalize hA : ((((w'.alloc (.cells #[.pointer (some ⟨c2, s2, none⟩)] 38)).alloc (.cells #[.pointer (some ⟨37, 38, none⟩), .pointer (some ⟨w'.heap.size, 0, none⟩), .int .u64 150] 79)).alloc (.cells #[.pointer (some ⟨37, 38, none⟩), .pointer (some ⟨w'.heap.size, 0, none⟩), .int .u64 150] 79)).alloc (.cells #[.pointer (some ⟨c1, s1, none⟩)] 35)) = w4
  have hbel : Below w'.heap.size w' w4 := by
    rw [← hA]
    refine Below.trans (Below.trans (Below.trans (below_alloc _ _) ((below_alloc _ _).mono ?_)) ((below_alloc _ _).mono ?_)) ((below_alloc _ _).mono ?_)
    all_goals (simp; try omega)
  have hc2 : c2 < w'.heap.size := (Array.getElem?_eq_some_iff.1 g0).1
  have hr4 := hr.grow hbel
  obtain ⟨h'', w5, hr5, hrun, hk5, _, _⟩ := storeK_ok (vs := [.ptr b o]) (xs := [.pointer (some ⟨c1, s1, none⟩)]) (k := some) hr4 hb2 (.cons _ _ _ _ (.ptr _ _ _ _ hb1 hs1) .nil) e1
  cases hk5
  rw [hs2] at hrun
  have hs := sc1 (P := Tryz.prog) (W := w4) (a := ⟨c2, s2, none⟩) (e := ⟨c1, s1, none⟩) (old := cs'[s2]) (by
      have := ht0
      simp only [World.cell?] at this ⊢
      rw [hbel.block c2 hc2]; exact this) (by
      have := hf0
      simp only [World.frozen?] at this ⊢
      rw [hbel.block c2 hc2]; exact this)
  rw [hs] at hrun
  cases hrun
  exact hr5
end Go.Proofs.YtncodmefagealaaGreatDoor.K
