/- Contracts of functions of the program, walked, and plain laws. -/
import Derived.Test.YtncodmefagealaaGreatDoorEvMB
/- The step machine: operations that act. -/
namespace Go.Ev
open Go Go.RowKit
noncomputable section
section ops
variable {P : Program} {w0 : Base} {w : World} {r : Ren} {h : H} {tm : Nat → Option V} {ρ : Operand → Value}

/-- A value comes out, and what the machine goes on with stands for it. -/
def ValOut {β : Type} (P : Program) (w0 : Base) (r : Ren) (w : World) (s : Sem Value) (kv : V → H → Option β) (res : β) : Prop :=
  ∃ v h' r' x w', HR P w0 r' h' w' ∧ r.le r' ∧ VR r' v x ∧ s.run P w = .ok x w' ∧ kv v h' = some res
variable {β : Type} {kv : V → H → Option β} {res : β}

theorem alloc_run (w : World) (e : Nat) (c : Array Value) : (newRow e c).run P w = .ok ⟨w.heap.size, 0, none⟩ (w.alloc (.cells c e)) := by simp [newRow, Result.andThen]
theorem no_fz (n : Nat) : ∀ i, i < n → ¬ (((0, 0) : Nat × Nat).1 ≤ i ∧ i < ((0, 0) : Nat × Nat).2) := fun i _ => by simp
theorem alloc_ok (hr : HR P w0 r h w) {t : Nat} {z : V} (hz : zeroV P t = some z) (hk : newK h t false z.cells (fun c h => kv (.ptr c 0) h) = some res) : ValOut P w0 r w (Instr.alloc t true (.tuple #[])) kv res := by
  obtain ⟨i, zv, hi, hzv, _, hcs⟩ := zeroV_spec (r := r) hz
  obtain ⟨h', r', h1, h2, h3, _, h3', h5⟩ := newK_ok (xs := zv.cells) (kcap := 0) (fz := (0, 0)) hr hcs (fun i x hx => by simpa using hx) (by rw [hcs.length]; simp) (no_fz _) (by simp) (fun _ => by rw [hcs.length]; simp) hk
  exact ⟨_, h', r', _, _, h1, h2, .ptr _ 0 _ 0 h3 h3', by simp [Instr.alloc, run_zeroValue hi hzv, Result.andThen, newVar, alloc_run], h5⟩
theorem box_ok (hr : HR P w0 r h w) {t : Nat} {v : V} {x : Value} {vc : List V} (hv : VR r v x) (hc : v.cellsO = some vc) (hk : newK h t false vc (fun c h => kv (.ptr c 0) h) = some res) : ValOut P w0 r w (Instr.box t x) kv res := by
  have hcs := hv.cellsO hc
  obtain ⟨h', r', h1, h2, h3, _, h3', h5⟩ := newK_ok (xs := x.cells) (kcap := 0) (fz := (0, 0)) hr hcs (fun i x hx => by simpa using hx) (by rw [hcs.length]; simp) (no_fz _) (by simp) (fun _ => by rw [hcs.length]; simp) hk
  exact ⟨_, h', r', _, _, h1, h2, .ptr _ 0 _ 0 h3 h3', by simp [Instr.box, Result.andThen, newVar, alloc_run], h5⟩
theorem store_ok (hr : HR P w0 r h w) {t b off c n : Nat} {g : Bool} {v : V} {x : Value} {vc : List V} (hcat : r.at_ b = some c) (hv : VR r v x) (hc : v.cellsO = some vc) (ht : tyI P t = some (g, n)) (hlen : vc.length = n)
    (hk : storeK h b off vc none (fun h => kv (.tup []) h) = some res) : ∃ h' w', HR P w0 r h' w' ∧ (Instr.storeAt t (.pointer (some ⟨c, r.sh b + off, none⟩)) x).run P w = .ok () w' ∧ kv (.tup []) h' = some res := by
  have hcs := hv.cellsO hc
  obtain ⟨h', w', h1, h2, h3, _⟩ := storeK_ok hr hcat hcs hk
  refine ⟨h', w', h1, ?_, h3⟩
  have hs : x.cells.size = n := by rw [← hlen, hcs.length]; simp
  simp [Instr.storeAt, Instr.sureAddr, storeVar, (tyI_spec ht).2.1, hs, Result.andThen, h2]
theorem repl_get (z : List V) : ∀ (n : Nat) (acc : List V) (i : Nat), (repl z n acc)[i]? = if i < n * z.length then z[i % z.length]? else acc[i - n * z.length]?
  | 0, acc, i => by simp [repl]
  | n + 1, acc, i => by
    rw [repl, repl_get z n]
    by_cases h1 : i < n * z.length
    · rw [if_pos h1, if_pos (by rw [Nat.add_mul]; omega)]
    · rw [if_neg h1]
      rw [Nat.add_mul, Nat.one_mul]
      by_cases h2 : i < n * z.length + z.length
      · rw [if_pos h2, List.getElem?_append_left (by omega)]
        congr 1
        have : i = z.length * n + (i - n * z.length) := by rw [Nat.mul_comm z.length n]; omega
        conv => rhs; rw [this, Nat.mul_add_mod]
        exact (Nat.mod_eq_of_lt (by omega)).symm
      · rw [if_neg h2, List.getElem?_append_right (by omega)]
        congr 1; omega
theorem repl_length (z : List V) : ∀ (n : Nat) (acc : List V), (repl z n acc).length = n * z.length + acc.length
  | 0, acc => by simp [repl]
  | n + 1, acc => by rw [repl, repl_length z n]; simp [Nat.add_mul]; omega
/-- The noughts of a new row. -/
theorem zeros_get {z : List V} {zv : Array Value} (hz : VRs r z zv.toList) (hp : 0 < z.length) {n i : Nat} (hi : i < n) : ∃ v x, z[i % z.length]? = some v ∧ ((Array.range n).map fun i => zv[i % zv.size]!)[i]? = some x ∧ VR r v x := by
  have hl : z.length = zv.size := by rw [hz.length]; simp
  have hlt : i % z.length < z.length := Nat.mod_lt _ hp
  obtain ⟨x, hx, hv⟩ := hz.get (List.getElem?_eq_getElem hlt)
  refine ⟨_, x, List.getElem?_eq_getElem hlt, ?_, hv⟩
  have hx' : zv[i % zv.size]? = some x := by rw [← hl]; simpa using hx
  have : zv[i % zv.size]! = x := by rw [getElem!_def, hx']
  simp [hi, this]
theorem buildSlice_ok (hr : HR P w0 r h w) {t elem esz len : Nat} {g : Bool} {ps : List (Nat × V)} {xs : List (Nat × Value)} {z : V} {l : List V} (hs : sliceElem P t = some (elem, esz, g)) (hp : PRs r ps xs) (hpos : 0 < esz) (hz : zeroV P elem = some z)
    (hzl : z.cells.length = esz) (hsm : len * esz ≤ 16777216) (hf : fillL (fun i => some (Nat.mul i esz, esz)) (repl z.cells len []) ps = some l) (hk : newK h elem false l (fun c h => kv (.sl c 0 len (.exact len)) h) = some res) :
    ValOut P w0 r w (Instr.buildSlice t len ⟨xs⟩) kv res := by
  obtain ⟨hu, ht⟩ := sliceElem_spec hs
  obtain ⟨_, hsz, _⟩ := tyI_spec ht
  obtain ⟨i, zv, hi, hzv, _, hcs⟩ := zeroV_spec (r := r) hz
  have hcl : zv.cells.size = esz := by rw [← hzl, hcs.length]; simp
  have hzeros : VRs r (repl z.cells len []) (((Array.range (len * esz)).map fun i => (if len * esz = 0 then #[] else zv.cells)[i % (if len * esz = 0 then #[] else zv.cells).size]!).toList) := by
    by_cases h0 : len * esz = 0
    · have : len = 0 := by rcases Nat.mul_eq_zero.1 h0 with h | h <;> omega
      subst this
      simp [repl]; exact .nil
    · rw [if_neg h0]
      refine VRs.of_get' (by rw [repl_length]; simp [hzl]) fun i v u hv hu' => ?_
      rw [repl_get] at hv
      split at hv
      · rename_i hlt
        obtain ⟨v', x, e1, e2, hvr⟩ := zeros_get hcs (by omega) (n := len * esz) (by rw [← hzl]; exact hlt)
        rw [hv] at e1; cases e1
        rw [Array.getElem?_toList] at hu'
        have hu2 := hu'
        rw [e2] at hu2; cases hu2
        exact hvr
      · cases hv
  obtain ⟨arr, e1, e2⟩ := fillL_ok (place' := fun i => some (i * esz, esz)) (fun i p hp => hp) hp hzeros hf
  obtain ⟨h', r', h1, h2, h3, _, h3', h5⟩ := newK_ok (xs := arr) (kcap := 0) (fz := (0, 0)) hr e2 (fun i x hx => by simpa using hx) (by rw [e2.length]; simp) (no_fz _) (by simp) (fun _ => by rw [e2.length]; simp) hk
  refine ⟨_, h', r', _, _, h1, h2, .slx _ 0 _ _ _ 0 h3 h3', ?_, h5⟩
  by_cases h0 : len * esz = 0
  · simp only [h0, if_true] at e1
    simp [Instr.buildSlice, run_underlying hu, hsz, Result.andThen, h0] at e1 ⊢
    simp [e1, Result.andThen, alloc_run]
  · simp only [h0, if_false] at e1
    have hsm' : ¬ (len * esz > 2 ^ 24) := by omega
    simp [Instr.buildSlice, run_underlying hu, hsz, Result.andThen, h0, hsm', run_zeroValue hi hzv, e1, alloc_run]
theorem small_spec {n : Nat} (h : small n = true) : n ≤ 100000000 := Nat.le_of_ble_eq_true h
theorem i64_small {n : Nat} (h : n ≤ 100000000) : IntKind.i64.wrap (n : Int) = n := by rw [← wrapF_eq]; show adj .i64 (n % 18446744073709551616) = _; rw [Nat.mod_eq_of_lt (by omega)]; unfold adj; simp only [IntKind.signed]; rw [show Nat.ble (halfK .i64) n = false by rw [Bool.eq_false_iff]; intro h'; have := Nat.le_of_ble_eq_true h'; simp [halfK] at this; omega]; rfl
theorem bytesT_spec {t n : Nat} (h : bytesT P t = some n) : ∃ i, P.info? t = some i ∧ i.bytes = n := by
  unfold bytesT at h
  split at h
  · rename_i i hi; exact ⟨i, hi, Option.some.inj h⟩
  · cases h
theorem makeSlice_ok (hr : HR P w0 r h w) {t elem esz l c by_ : Nat} {g : Bool} {z : V} {kl kc : IntKind} (hs : sliceElem P t = some (elem, esz, g)) (hpos : 0 < esz) (hz : zeroV P elem = some z) (hb : bytesT P elem = some by_)
    (hzl : z.cells.length = esz) (hlc : l ≤ c) (hsm : (c + 1) * (by_ + 1) ≤ 100000000) (hk : newObjK h (.cells elem true false (c * esz) z.cells .e) (fun b h => kv (.sl b 0 l (.exact c)) h) = some res) :
    ValOut P w0 r w (Instr.makeSlice t (.int kl (l : Int)) (.int kc (c : Int))) kv res := by
  obtain ⟨hu, ht⟩ := sliceElem_spec hs
  obtain ⟨_, hsz, _⟩ := tyI_spec ht
  obtain ⟨i, zv, hi, hzv, _, hcs⟩ := zeroV_spec (r := r) hz
  obtain ⟨i', hi', hby⟩ := bytesT_spec hb
  obtain rfl : i' = i := by rw [hi] at hi'; exact (Option.some.inj hi').symm
  have hcl : zv.cells.size = esz := by rw [← hzl, hcs.length]; simp
  have hc1 : c ≤ 100000000 := by
    have := Nat.le_mul_of_pos_right (c + 1) (show 0 < by_ + 1 by omega); omega
  have hbc : by_ * c ≤ 100000000 := by
    rw [Nat.mul_comm]
    exact Nat.le_trans (Nat.mul_le_mul (by omega) (by omega)) hsm
  have hbl : by_ * l ≤ 100000000 := Nat.le_trans (Nat.mul_le_mul_left _ hlc) hbc
  let arr : Array Value := (Array.range (c * esz)).map fun i => (if c * esz = 0 then #[] else zv.cells)[i % (if c * esz = 0 then #[] else zv.cells).size]!
  obtain ⟨h', r', h1, h2, h3, h3', h5⟩ := newObjK_ok (o := .cells arr elem) (ao := .cells elem true false (c * esz) z.cells .e) hr ⟨arr, (0, 0), rfl, fun _ => no_fz _, fun i v hv => (by
      rw [cellAt_eq, T.get_e] at hv
      dsimp only at hv
      split at hv
      · rename_i hlt
        have h0 : ¬ c * esz = 0 := by omega
        obtain ⟨v', x, e1, e2, hvr⟩ := zeros_get hcs (by omega) (n := c * esz) hlt
        have e3 : z.cells[i % z.cells.length]? = some v := by
          unfold zget at hv
          split at hv
          · cases hv
          · rename_i y hy; rw [hy]; simp [Nat.mod_one]; exact Option.some.inj hv
          · exact hv
        rw [e3] at e1; cases e1
        refine ⟨x, ?_, hvr.mono (Ren.ext_le hr.none_nx)⟩
        rw [Ren.ext_sh, Nat.zero_add]
        show ((Array.range (c * esz)).map fun i => (if c * esz = 0 then #[] else zv.cells)[i % (if c * esz = 0 then #[] else zv.cells).size]!)[i]? = some x
        rw [if_neg h0]; exact e2
      · cases hv), by rw [Ren.ext_sh]; simp [arr], by simp, fun _ => ⟨Ren.ext_sh .., by simp [arr]⟩⟩ hk
  refine ⟨_, h', r', _, _, h1, h2, .slx _ 0 _ _ _ 0 h3 h3', ?_, h5⟩
  have n1 : ¬ (281474976710656 < (by_ : Int) * (c : Int)) := by
    have : ((by_ * c : Nat) : Int) ≤ 100000000 := by omega
    rw [Int.natCast_mul] at this; omega
  have n2 : ¬ ((c : Int) < 0) := by omega
  have n3 : ¬ ((l : Int) < 0) := by omega
  have n4 : ¬ ((c : Int) < (l : Int)) := by omega
  have w1 := i64_small hc1
  have w2 := i64_small (Nat.le_trans hlc hc1)
  by_cases h0 : c * esz = 0
  · simp [Instr.makeSlice, run_underlying hu, asInt, asIntOf, typeInfo, hi, hby, Result.andThen, w1, w2, n1, n2, n3, n4, hsz, h0, alloc_run, arr]
  · simp [Instr.makeSlice, run_underlying hu, asInt, asIntOf, typeInfo, hi, hby, Result.andThen, w1, w2, n1, n2, n3, n4, hsz, h0, alloc_run, arr, run_zeroValue hi hzv]
end ops
end
end Go.Ev
/- The step machine: maps. -/
namespace Go.Ev
open Go Go.RowKit
noncomputable section
section ops
variable {P : Program} {w0 : Base} {w : World} {r : Ren} {h : H} {tm : Nat → Option V} {ρ : Operand → Value}
variable {β : Type} {kv : V → H → Option β} {res : β}

theorem mset_ok {key v : V} {x u : Value} (hk : VR r key x) (hv : VR r v u) : ∀ {es : List (V × V × Nat)} {xs : List MapEntry} (i : Nat), ERs r es xs → ERs r (mset es i key v) (xs.modify i fun e => { e with key := x, val := u })
  | _, _, _, .nil => by simp [mset]; exact .nil
  | _, _, 0, .cons _ _ b _ _ es xs _ _ h => .cons key v b x u es xs hk hv h
  | _, _, i + 1, .cons k' v' b y z es xs h1 h2 h => .cons k' v' b y z _ _ h1 h2 (mset_ok hk hv i h)
theorem ERs.snoc {key v : V} {x u : Value} {c : Nat} (hk : VR r key x) (hv : VR r v u) : ∀ {es : List (V × V × Nat)} {xs : List MapEntry}, ERs r es xs → ERs r (es ++ [(key, v, c)]) (xs ++ [⟨x, u, c⟩])
  | _, _, .nil => .cons _ _ _ _ _ _ _ hk hv .nil
  | _, _, .cons k' v' b y z es xs h1 h2 h => .cons k' v' b y z _ _ h1 h2 (ERs.snoc hk hv h)
theorem ERs.erase : ∀ {es : List (V × V × Nat)} {xs : List MapEntry} (i : Nat), ERs r es xs → ERs r (es.eraseIdx i) (xs.eraseIdx i)
  | _, _, _, .nil => .nil
  | _, _, 0, .cons _ _ _ _ _ _ _ _ _ h => h
  | _, _, i + 1, .cons k' v' b y z es xs h1 h2 h => .cons k' v' b y z _ _ h1 h2 (ERs.erase i h)
theorem setObj_run {c : Nat} {o o' : Obj} (ho : w.heap[c]? = some o) (hn : ∀ cs e f, o ≠ .cells cs e f) : (setObj c o').run P w = .ok () { w with heap := w.heap.setIfInBounds c o' } := by
  cases o <;> first | (simp [setObj, Sem.run, ho]; done) | exact absurd rfl (hn _ _ _)
/-- A map's new entries. -/
theorem HR.setMap (hr : HR P w0 r h w) {b c clock clock' : Nat} {es es' : List (V × V × Nat)} {xs' : Array MapEntry} (hb : h.t.get b = some (.map es clock)) (hc : r.at_ b = some c) (hE : ERs r es' xs'.toList) :
    HR P w0 r ⟨h.t.set b (.map es' clock'), h.nx⟩ { w with heap := w.heap.setIfInBounds c (.map xs' clock') } := by
  obtain ⟨xs, h0, _⟩ := hr.map hb hc
  have hlt : c < w.heap.size := (Array.getElem?_eq_some_iff.1 h0).1
  exact hr.upd hb rfl rfl hc (Upd.setObj _) fun _ => ⟨xs', by simp [hlt], hE⟩
theorem mapUpdate_ok (hr : HR P w0 r h w) {t kt et b : Nat} {key v : V} {ym yk yv : Value} (hu : P.underlying t = some (.map kt et)) (hm : VR r (.map b) ym) (hk : VR r key yk) (hv : VR r v yv) (hpk : plainKey P kt key = true)
    {es : List (V × V × Nat)} {clock : Nat} (hb : h.t.get b = some (.map es clock)) {fr : Option (Nat × V)} (hf : kfind key es 0 = some fr) :
    ∃ h' w', HR P w0 r h' w' ∧ (Instr.mapUpdate t ym yk yv).run P w = .ok () w' ∧ h' = ⟨h.t.set b (match fr with | some (i, _) => .map (mset es i key v) clock | none => .map (es ++ [(key, v, clock)]) (Nat.succ clock)), h.nx⟩ := by
  obtain ⟨c, rfl, hc⟩ := hm.map_inv
  obtain ⟨xs, h0, hE⟩ := hr.map hb hc
  obtain ⟨d, hd, hkey, hshape⟩ := plainKey_spec hpk hk
  have hck : (Instr.checkKey false 10000 kt yk).run P w = .ok () w := MapKept.run_checkKey hd hkey false 9999
  have hg := getObj_run (P := P) h0 (by intros; simp)
  have hs : ∀ o', (setObj c o').run P w = .ok () { w with heap := w.heap.setIfInBounds c o' } := fun o' => setObj_run h0 (by intros; simp)
  rcases kfind_ok hshape hk 0 hE hf with ⟨e1, e2⟩ | ⟨j, v', u, e, e1, _, e3, _, e5, e6⟩
  · subst e1
    have hfk := MapKept.run_findKey (P := P) (w := w) hd e2
    refine ⟨_, _, hr.setMap (clock' := clock + 1) (es' := es ++ [(key, v, clock)]) (xs' := xs.push ⟨yk, yv, clock⟩) hb hc (by simpa using hE.snoc hk hv), ?_, rfl⟩
    simp [Instr.mapUpdate, run_underlying hu, hg, hck, hfk, hs, Result.andThen]
  · subst e1
    have hfk := MapKept.run_findKey (P := P) (w := w) hd e3
    have e5' : xs[j]? = some e := by simpa using e5
    refine ⟨_, _, hr.setMap (clock' := clock) (es' := mset es j key v) (xs' := xs.modify j fun e => { e with key := yk, val := yv }) hb hc (by rw [Array.toList_modify]; exact mset_ok hk hv j hE), ?_, rfl⟩
    simp [Instr.mapUpdate, run_underlying hu, hg, hck, hfk, hs, Result.andThen, e5', Instr.keyThatStays, e6]
theorem delete_ok (hr : HR P w0 r h w) {t kt et ty b : Nat} {key : V} {ym yk : Value} {ts : List Nat} {ys : List Value} (hu : P.underlying t = some (.map kt et)) (hm : VR r (.map b) ym) (hk : VR r key yk) (hpk : plainKey P kt key = true)
    {es : List (V × V × Nat)} {clock : Nat} (hb : h.t.get b = some (.map es clock)) {fr : Option (Nat × V)} (hf : kfind key es 0 = some fr) :
    ∃ w', HR P w0 r (match fr with | some (i, _) => ⟨h.t.set b (.map (es.eraseIdx i) clock), h.nx⟩ | none => h) w' ∧ (Builtin.delete_ ⟨t :: ts⟩ ty ⟨ym :: yk :: ys⟩).run P w = .ok (.tuple #[]) w' := by
  obtain ⟨c, rfl, hc⟩ := hm.map_inv
  obtain ⟨xs, h0, hE⟩ := hr.map hb hc
  obtain ⟨d, hd, hkey, hshape⟩ := plainKey_spec hpk hk
  have hck : ∀ e, (Instr.checkKey e 10000 kt yk).run P w = .ok () w := fun e => MapKept.run_checkKey hd hkey e 9999
  have hg := getObj_run (P := P) h0 (by intros; simp)
  have hs : ∀ o', (setObj c o').run P w = .ok () { w with heap := w.heap.setIfInBounds c o' } := fun o' => setObj_run h0 (by intros; simp)
  have hlt : c < w.heap.size := (Array.getElem?_eq_some_iff.1 h0).1
  rcases kfind_ok hshape hk 0 hE hf with ⟨e1, e2⟩ | ⟨j, v', u, e, e1, _, e3, _, e5, e6⟩
  · subst e1
    have hfk := MapKept.run_findKey (P := P) (w := w) hd e2
    refine ⟨{ w with heap := w.heap.setIfInBounds c (.map xs clock) }, ?_, ?_⟩
    · refine hr.same ?_ rfl rfl rfl
      apply Array.ext_getElem?
      intro i
      by_cases hi : i = c
      · subst hi; simp [hlt]; rw [Array.getElem?_eq_getElem hlt] at h0; exact (Option.some.inj h0).symm
      · exact Array.getElem?_setIfInBounds_ne (Ne.symm hi)
    · simp [Builtin.delete_, run_underlying hu, hg, hck, hfk, hs, Result.andThen]
  · subst e1
    have hfk := MapKept.run_findKey (P := P) (w := w) hd e3
    refine ⟨_, hr.setMap (clock' := clock) (es' := es.eraseIdx j) (xs' := xs.eraseIdxIfInBounds j) hb hc (by rw [Array.toList_eraseIdxIfInBounds]; exact hE.erase j), ?_⟩
    simp [Builtin.delete_, run_underlying hu, hg, hck, hfk, hs, Result.andThen]
theorem delete_nil {t kt et ty : Nat} {key : V} {yk : Value} {ts : List Nat} {ys : List Value} (hu : P.underlying t = some (.map kt et)) (hk : VR r key yk) (hpk : plainKey P kt key = true) :
    (Builtin.delete_ ⟨t :: ts⟩ ty ⟨.map none :: yk :: ys⟩).run P w = .ok (.tuple #[]) w := by
  obtain ⟨d, hd, hkey, hshape⟩ := plainKey_spec hpk hk
  have hck : ∀ e, (Instr.checkKey e 10000 kt yk).run P w = .ok () w := fun e => MapKept.run_checkKey hd hkey e 9999
  simp [Builtin.delete_, run_underlying hu, hck, Result.andThen]
theorem range_nil_ok (hr : HR P w0 r h w) {t k e : Nat} {y : Value} (hu : P.underlying t = some (.map k e)) (hy : VR r .nilm y) (hk : newObjK h (.mapIter none 0 [] 0) (fun b h => kv (.ptr b 0) h) = some res) :
    ValOut P w0 r w (Instr.range t y) kv res := by
  rw [hy.nilm_inv]
  obtain ⟨h', r', h1, h2, h3, h3', h5⟩ := newObjK_ok (o := .mapIter none 0 #[] 0) (ao := .mapIter none 0 [] 0) hr ⟨Ren.ext_sh .., none, rfl, rfl⟩ hk
  exact ⟨_, h', r', _, _, h1, h2, .ptr _ 0 _ 0 h3 h3', by simp [Instr.range, run_underlying hu, Result.andThen], h5⟩
theorem range_map_ok (hr : HR P w0 r h w) {t k e m clock : Nat} {y : Value} {es : List (V × V × Nat)} (hu : P.underlying t = some (.map k e)) (hy : VR r (.map m) y) (hb : h.t.get m = some (.map es clock))
    (hk : newObjK h (.mapIter (some m) clock [] clock) (fun b h => kv (.ptr b 0) h) = some res) : ValOut P w0 r w (Instr.range t y) kv res := by
  obtain ⟨c, rfl, hc⟩ := hy.map_inv
  obtain ⟨xs, h0, hE⟩ := hr.map hb hc
  have hg := getObj_run (P := P) h0 (by intros; simp)
  obtain ⟨h', r', h1, h2, h3, h3', h5⟩ := newObjK_ok (o := .mapIter (some c) clock #[] clock) (ao := .mapIter (some m) clock [] clock) hr ⟨Ren.ext_sh .., some c, rfl, c, (Ren.ext_le hr.none_nx _ _ hc).1, rfl⟩ hk
  exact ⟨_, h', r', _, _, h1, h2, .ptr _ 0 _ 0 h3 h3', by simp [Instr.range, run_underlying hu, hg, Result.andThen], h5⟩
theorem range_str_ok (hr : HR P w0 r h w) {t : Nat} {y : Value} {s : List Nat} (hu : P.underlying t = some .string) (hy : VR r (.str s) y)
    (hk : newObjK h (.strIter s 0) (fun b h => kv (.ptr b 0) h) = some res) : ValOut P w0 r w (Instr.range t y) kv res := by
  obtain ⟨x, rfl, hx⟩ := hy.str_inv
  obtain ⟨h', r', h1, h2, h3, h3', h5⟩ := newObjK_ok (o := .stringIter x 0) (ao := .strIter s 0) hr ⟨Ren.ext_sh .., x, rfl, hx⟩ hk
  exact ⟨_, h', r', _, _, h1, h2, .ptr _ 0 _ 0 h3 h3', by simp [Instr.range, run_underlying hu, Result.andThen], h5⟩
end ops
end
end Go.Ev
/- The step machine: iterators, appends, copies. -/
namespace Go.Ev
open Go Go.RowKit
noncomputable section
section ops
variable {P : Program} {w0 : Base} {w : World} {r : Ren} {h : H} {tm : Nat → Option V} {ρ : Operand → Value}
variable {β : Type} {kv : V → H → Option β} {res : β}

theorem filter_ok (seen : List Nat) : ∀ {es : List (V × V × Nat)} {xs : List MapEntry}, ERs r es xs → ERs r (es.filter fun e => !seen.contains e.2.2) (xs.filter fun e => !seen.contains e.born)
  | _, _, .nil => .nil
  | _, _, .cons k v b x y es xs h1 h2 h => by
    simp only [List.filter_cons]
    split
    · exact .cons k v b x y _ _ h1 h2 (filter_ok seen h)
    · exact filter_ok seen h
theorem all_ok (last : Nat) : ∀ {es : List (V × V × Nat)} {xs : List MapEntry}, ERs r es xs → xs.all (fun e => decide (e.born ≥ last)) = es.all (fun e => Nat.ble last e.2.2)
  | _, _, .nil => rfl
  | _, _, .cons k v b x y es xs h1 h2 h => by
    simp only [List.all_cons, all_ok last h]
    congr 1
    rw [Bool.eq_iff_iff]; simp [Nat.ble_eq]
theorem ERs.isEmpty : ∀ {es : List (V × V × Nat)} {xs : List MapEntry}, ERs r es xs → xs.isEmpty = es.isEmpty
  | _, _, .nil => rfl
  | _, _, .cons .. => rfl
theorem decode_ascii {x : ByteArray} {pos c : Nat} {l : List Nat} (h : (x.data.toList.map UInt8.toNat).drop pos = c :: l) (hc : c < 128) : pos < x.size ∧ Utf8.decode x pos = (c, 1) := by
  have h1 : (x.data.toList.map UInt8.toNat)[pos]? = some c := by
    have : ((x.data.toList.map UInt8.toNat).drop pos)[0]? = some c := by rw [h]; rfl
    simpa using this
  have hlt : pos < x.size := by
    have := (List.getElem?_eq_some_iff.1 h1).1
    rw [size_data] at this; exact this
  refine ⟨hlt, ?_⟩
  have hg : (x.get! (pos + 0)).toNat = c := by
    rw [List.getElem?_map] at h1
    have hlt' : pos < x.data.size := hlt
    have e : x.data.toList[pos]? = some x.data[pos] := by simp
    rw [e] at h1
    have : x.get! (pos + 0) = x.data[pos] := by
      show x.data[pos]! = _
      rw [getElem!_pos x.data pos hlt']
    rw [this]; simpa using h1
  unfold Utf8.decode
  simp only [hg]
  rw [if_pos hc]
theorem next_str_ok (hr : HR P w0 r h w) {it pos ty c0 p1 : Nat} {s l : List Nat} {y : Value} (hy : VR r (.ptr it 0) y) (hb : h.t.get it = some (.strIter s pos)) (hd : s.drop pos = c0 :: l) (hc0 : c0 < 128) (hp : p1 = pos + 1) :
    ∃ w', HR P w0 r ⟨h.t.set it (.strIter s p1), h.nx⟩ w' ∧ (Instr.next y true ty).run P w = .ok (.tuple #[.bool true, .int .i64 (pos : Int), .int .i32 (c0 : Int)]) w' := by
  subst hp
  obtain ⟨c, rfl, hc⟩ := hr.iter_ptr hb rfl hy
  obtain ⟨c', hc', ⟨hz, x, h0, hx⟩, _⟩ := hr.ob it _ hb rfl _ hc
  obtain rfl : c' = c := by rw [hc] at hc'; exact (Option.some.inj hc').symm
  have hlt : c' < w.heap.size := (Array.getElem?_eq_some_iff.1 h0).1
  obtain ⟨d1, d2⟩ := decode_ascii (by rw [hx]; exact hd) hc0
  have hg := getObj_run (P := P) h0 (by intros; simp)
  have hs : ∀ o', (setObj c' o').run P w = .ok () { w with heap := w.heap.setIfInBounds c' o' } := fun o' => setObj_run h0 (by intros; simp)
  refine ⟨_, hr.upd (o' := .strIter s (pos + 1)) hb rfl rfl hc (Upd.setObj (.stringIter x (pos + 1))) fun _ => ⟨hz, x, by simp [hlt], hx⟩, ?_⟩
  simp [Instr.next, hg, hs, d1, d2, Result.andThen, goInt]
theorem next_str_end (hr : HR P w0 r h w) {it pos ty : Nat} {s : List Nat} {y : Value} (hy : VR r (.ptr it 0) y) (hb : h.t.get it = some (.strIter s pos)) (hd : s.drop pos = []) :
    (Instr.next y true ty).run P w = .ok (.tuple #[.bool false]) w := by
  obtain ⟨c, rfl, hc⟩ := hr.iter_ptr hb rfl hy
  obtain ⟨c', hc', ⟨hz, x, h0, hx⟩, _⟩ := hr.ob it _ hb rfl _ hc
  obtain rfl : c' = c := by rw [hc] at hc'; exact (Option.some.inj hc').symm
  have hg := getObj_run (P := P) h0 (by intros; simp)
  have : ¬ pos < x.size := by
    rw [← size_data, hx]
    have := List.drop_eq_nil_iff.1 hd; omega
  simp [Instr.next, hg, this, Result.andThen]
theorem next_nil (hr : HR P w0 r h w) {it since last ty : Nat} {seen : List Nat} {y : Value} (hy : VR r (.ptr it 0) y) (hb : h.t.get it = some (.mapIter none since seen last)) :
    (Instr.next y false ty).run P w = .ok (.tuple #[.bool false]) w := by
  obtain ⟨c, rfl, hc⟩ := hr.iter_ptr hb rfl hy
  obtain ⟨m', h0, h1⟩ := hr.iter hb hc
  obtain rfl : m' = none := h1
  have hg := getObj_run (P := P) h0 (by intros; simp)
  simp [Instr.next, hg, Result.andThen]
/-- The next of a map's iterator, by the candidates. -/
theorem next_run {c cm since last clock ty : Nat} {seen : Array Nat} {xs : Array MapEntry} (h0 : w.heap[c]? = some (.mapIter (some cm) since seen last)) (h1 : w.heap[cm]? = some (.map xs clock))
    (hg : (!seen.isEmpty && !xs.isEmpty && xs.all fun e => decide (e.born ≥ last)) = false) :
    (∀ e, (xs.filter fun e => !seen.contains e.born) = #[e] → e.born < since →
      (Instr.next (.pointer (some ⟨c, 0, none⟩)) false ty).run P w = .ok (.tuple #[.bool true, e.key, e.val]) { w with heap := w.heap.setIfInBounds c (.mapIter (some cm) since (seen.push e.born) clock) }) ∧
    ((xs.filter fun e => !seen.contains e.born) = #[] → (Instr.next (.pointer (some ⟨c, 0, none⟩)) false ty).run P w = .ok (.tuple #[.bool false]) w) ∧
    ((∀ e ∈ xs, e.born < since) → 1 < (xs.filter fun e => !seen.contains e.born).size → ∃ (e : MapEntry) (w1 : World), e ∈ xs.filter (fun e => !seen.contains e.born) ∧ w1.heap = w.heap ∧ w1.os = w.os ∧ w1.tape = w.tape ∧ w1.output = w.output ∧
      (Instr.next (.pointer (some ⟨c, 0, none⟩)) false ty).run P w = .ok (.tuple #[.bool true, e.key, e.val]) { w1 with heap := w1.heap.setIfInBounds c (.mapIter (some cm) since (seen.push e.born) clock) }) := by
  have hg0 := getObj_run (P := P) h0 (by intros; simp)
  have hg1 := getObj_run (P := P) h1 (by intros; simp)
  refine ⟨fun e he hb => ?_, fun he => ?_, fun hall hsz => ?_⟩
  · have hs : ∀ o', (setObj c o').run P w = .ok () { w with heap := w.heap.setIfInBounds c o' } := fun o' => setObj_run h0 (by intros; simp)
    have hnb : ¬ (e.born ≥ since) := by omega
    have h1 : (#[e] : Array MapEntry).filter (fun e => decide (e.born < since)) = #[e] := by simp [hb]
    have h2 : (#[e] : Array MapEntry).filter (fun e => decide (e.born ≥ since)) = #[] := by simp [hb]
    unfold Instr.next
    simp only [Sem.run_bind, hg0, andThen_ok, hg1, hg, Bool.false_eq_true, if_false, he, h1, h2]
    simp [Question.forced, Result.andThen, hs]
  · unfold Instr.next
    simp only [Sem.run_bind, hg0, andThen_ok, hg1, hg, Bool.false_eq_true, if_false, he]
    simp [Question.forced, Result.andThen]
  · generalize hl : (xs.filter fun e => !seen.contains e.born) = left at hsz ⊢
    have hmem : ∀ e ∈ left, e.born < since := fun e he => by
      rw [← hl] at he
      exact hall e (Array.mem_filter.1 he).1
    have h1 : left.filter (fun e => decide (e.born < since)) = left := by
      apply Array.filter_eq_self.2
      intro a ha; simpa using hmem a ha
    have h2 : left.filter (fun e => decide (e.born ≥ since)) = #[] := by
      apply Array.filter_eq_empty_iff.2
      intro a ha; have := hmem a ha; simp; omega
    have hne : left.isEmpty = false := by
      rw [Bool.eq_false_iff]; intro h; have := Array.isEmpty_iff_size_eq_zero.1 h; omega
    have hq : (Question.mapNext left.size).forced = false := by simp [Question.forced]; omega
    have hklt : w.tape w.drawn (Question.mapNext left.size) % left.size < left.size := Nat.mod_lt _ (by omega)
    refine ⟨left[w.tape w.drawn (Question.mapNext left.size) % left.size], w.drew, by simp, rfl, rfl, rfl, rfl, ?_⟩
    have hs : ∀ o', (setObj c o').run P w.drew = .ok () { w.drew with heap := w.drew.heap.setIfInBounds c o' } := fun o' => setObj_run (w := w.drew) h0 (by intros; simp)
    unfold Instr.next
    simp only [Sem.run_bind, hg0, andThen_ok, hg1, hg, Bool.false_eq_true, if_false, hl, h1, h2, hne]
    simp [hq, Result.andThen, hs, Question.cut, hklt]
end ops
end
end Go.Ev
/- The step machine: iterators over maps, appends, copies. -/
namespace Go.Ev
open Go Go.RowKit
noncomputable section
section ops
variable {P : Program} {w0 : Base} {w : World} {r : Ren} {h : H} {tm : Nat → Option V} {ρ : Operand → Value}
variable {β : Type} {kv : V → H → Option β} {res : β}

theorem ERs.arr {es : List (V × V × Nat)} {xs : Array MapEntry} (seen : List Nat) (hE : ERs r es xs.toList) : ERs r (es.filter fun e => !seen.contains e.2.2) (xs.filter fun e => !seen.toArray.contains e.born).toList := by
  have := filter_ok seen hE
  rw [Array.toList_filter]
  have e : (fun e : MapEntry => !seen.toArray.contains e.born) = (fun e => !seen.contains e.born) := by funext e; simp
  rw [e]; exact this
theorem guard_eq {es : List (V × V × Nat)} {xs : Array MapEntry} {seen : List Nat} {last : Nat} (hE : ERs r es xs.toList) :
    (!seen.toArray.isEmpty && !xs.isEmpty && xs.all fun e => decide (e.born ≥ last)) = (!seen.isEmpty && !es.isEmpty && es.all fun e => Nat.ble last e.2.2) := by
  rw [← all_ok last hE, ← hE.isEmpty]
  simp
theorem uniform_mem : ∀ {v : V} {since : Nat} {es : List (V × V × Nat)} {xs : List MapEntry}, ERs r es xs → uniform v since es = true → ∀ e ∈ xs, e.born < since :=
  fun h hu e he => (uniform_ok h hu e he).2
theorem nodupN_ok : ∀ {l : List Nat}, nodupN l = true → l.Nodup
  | [], _ => List.nodup_nil
  | a :: l, h => by
    simp only [nodupN, Bool.and_eq_true, Bool.not_eq_true'] at h
    refine List.nodup_cons.2 ⟨fun hm => ?_, nodupN_ok h.2⟩
    have := h.1
    rw [Bool.eq_false_iff] at this
    exact this (List.any_eq_true.2 ⟨a, hm, Nat.beq_refl a⟩)
theorem next_one_ok (hr : HR P w0 r h w) {it m since last clock ty kb : Nat} {seen : List Nat} {es : List (V × V × Nat)} {key val : V} {y : Value} (hy : VR r (.ptr it 0) y) (hb : h.t.get it = some (.mapIter (some m) since seen last)) (hm : h.t.get m = some (.map es clock))
    (hg : (!seen.isEmpty && !es.isEmpty && es.all fun e => Nat.ble last e.2.2) = false) (hf : es.filter (fun e => !seen.contains e.2.2) = [(key, val, kb)]) (hlt : kb < since) :
    ∃ x u w', HR P w0 r ⟨h.t.set it (.mapIter (some m) since (seen ++ [kb]) clock), h.nx⟩ w' ∧ VR r key x ∧ VR r val u ∧ (Instr.next y false ty).run P w = .ok (.tuple #[.bool true, x, u]) w' := by
  obtain ⟨c, rfl, hc⟩ := hr.iter_ptr hb rfl hy
  obtain ⟨m', h0, cm, hcm, rfl⟩ := hr.iter hb hc
  obtain ⟨xs, h1, hE⟩ := hr.map hm hcm
  have hl := hE.arr seen
  rw [hf] at hl
  obtain ⟨e, he, hk, hv, hbb⟩ : ∃ e : MapEntry, (xs.filter fun e => !seen.toArray.contains e.born) = #[e] ∧ VR r key e.key ∧ VR r val e.val ∧ e.born = kb := by
    generalize hz : (xs.filter fun e => !seen.toArray.contains e.born) = z at hl
    obtain ⟨z⟩ := z
    simp only at hl
    cases hl with
    | cons _ _ _ x u _ ys hk hv hr => cases hr; exact ⟨⟨x, u, kb⟩, rfl, hk, hv, rfl⟩
  have hlt' : c < w.heap.size := (Array.getElem?_eq_some_iff.1 h0).1
  obtain ⟨h2, _, _⟩ := next_run (P := P) (ty := ty) h0 h1 (by rw [guard_eq hE]; exact hg)
  refine ⟨e.key, e.val, _, ?_, hk, hv, h2 e he (by omega)⟩
  refine hr.upd (o' := .mapIter (some m) since (seen ++ [kb]) clock) hb rfl rfl hc (Upd.setObj _) fun _ => ⟨hr.iter_z hb rfl hc, some cm, ?_, cm, hcm, rfl⟩
  simp [hlt', hbb]
theorem next_end_ok (hr : HR P w0 r h w) {it m since last clock ty : Nat} {seen : List Nat} {es : List (V × V × Nat)} {y : Value} (hy : VR r (.ptr it 0) y) (hb : h.t.get it = some (.mapIter (some m) since seen last)) (hm : h.t.get m = some (.map es clock))
    (hg : (!seen.isEmpty && !es.isEmpty && es.all fun e => Nat.ble last e.2.2) = false) (hf : es.filter (fun e => !seen.contains e.2.2) = []) :
    (Instr.next y false ty).run P w = .ok (.tuple #[.bool false]) w := by
  obtain ⟨c, rfl, hc⟩ := hr.iter_ptr hb rfl hy
  obtain ⟨m', h0, cm, hcm, rfl⟩ := hr.iter hb hc
  obtain ⟨xs, h1, hE⟩ := hr.map hm hcm
  have hl := hE.arr seen
  rw [hf] at hl
  obtain ⟨_, h2, _⟩ := next_run (P := P) (ty := ty) h0 h1 (by rw [guard_eq hE]; exact hg)
  refine h2 ?_
  generalize (xs.filter fun e => !seen.toArray.contains e.born) = z at hl
  obtain ⟨z⟩ := z
  cases hl; rfl
theorem one_elem {α : Type} {z : Array α} (h : z.size = 1) : ∃ e, z = #[e] := by
  obtain ⟨z⟩ := z
  match z, h with
  | [e], _ => exact ⟨e, rfl⟩
/-- Of a map whose values are all one: whichever entry comes. -/
theorem next_uni (hr : HR P w0 r h w) {it m c cm since last clock ty cnt : Nat} {seen : Array Nat} {es : List (V × V × Nat)} {val : V} {xs : Array MapEntry} {o : AObj} (hz : r.sh it = 0) (hb : h.t.get it = some o) (hlv : o.live = true) (hrw : o.rw = true) (hc : r.at_ it = some c) (hcm : r.at_ m = some cm)
    (h0 : w.heap[c]? = some (.mapIter (some cm) since seen last)) (h1 : w.heap[cm]? = some (.map xs clock)) (hE : ERs r es xs.toList) (hu : uniform val since es = true)
    (hg : (!seen.isEmpty && !xs.isEmpty && xs.all fun e => decide (e.born ≥ last)) = false) (hnd : seen.toList.Nodup) (hin : ∀ x ∈ seen.toList, x ∈ stampsOf es) (hst : (stampsOf es).Nodup) (hcnt : seen.size = cnt)
    (hsz : 1 < (xs.filter fun e => !seen.contains e.born).size ∨ ∃ e, (xs.filter fun e => !seen.contains e.born) = #[e]) :
    ∃ x u w', HR P w0 r ⟨h.t.set it (.mapIterU m since (stampsOf es) (cnt + 1) clock), h.nx⟩ w' ∧ VR r val u ∧ (Instr.next (.pointer (some ⟨c, 0, none⟩)) false ty).run P w = .ok (.tuple #[.bool true, x, u]) w' := by
  have hlt : c < w.heap.size := (Array.getElem?_eq_some_iff.1 h0).1
  obtain ⟨n1, _, n3⟩ := next_run (P := P) (ty := ty) h0 h1 hg
  have hfin : ∀ e ∈ xs.filter (fun e => !seen.contains e.born), VR r val e.val ∧ e.born < since ∧ (seen.push e.born).toList.Nodup ∧ (∀ x ∈ (seen.push e.born).toList, x ∈ stampsOf es) := by
    intro e he
    obtain ⟨h2, h3⟩ := Array.mem_filter.1 he
    obtain ⟨hv, hb'⟩ := uniform_ok hE hu e (by simpa using h2)
    have hni : e.born ∉ seen.toList := by simpa using h3
    refine ⟨hv, hb', ?_, ?_⟩
    · rw [Array.toList_push]
      refine List.nodup_append.2 ⟨hnd, by simp, fun a ha b hb e' => ?_⟩
      simp at hb; subst hb; subst e'; exact hni ha
    · intro x hx
      rw [Array.toList_push] at hx
      rcases List.mem_append.1 hx with hx | hx
      · exact hin x hx
      · simp at hx; subst hx
        rw [← stampsOf_ok hE]
        exact List.mem_map.2 ⟨e, by simpa using h2, rfl⟩
  rcases hsz with hsz | ⟨e, he⟩
  · obtain ⟨e, w1, hmem, e1, e2, e3, e4, hrun⟩ := n3 (fun e he => uniform_mem hE hu e (by simpa using he)) hsz
    obtain ⟨hv, _, hn, hi⟩ := hfin e hmem
    refine ⟨e.key, e.val, _, ?_, hv, hrun⟩
    have hr1 := hr.same (w' := w1) e1 e2 e3 e4
    refine hr1.upd (o' := .mapIterU m since (stampsOf es) (cnt + 1) clock) hb hlv hrw hc (Upd.setObj _) fun _ => ⟨hz, cm, seen.push e.born, ?_, hcm, by simp [hcnt], hn, hi, hst⟩
    simp [e1, hlt]
  · obtain ⟨hv, hb', hn, hi⟩ := hfin e (by rw [he]; simp)
    refine ⟨e.key, e.val, _, ?_, hv, n1 e he hb'⟩
    refine hr.upd (o' := .mapIterU m since (stampsOf es) (cnt + 1) clock) hb hlv hrw hc (Upd.setObj _) fun _ => ⟨hz, cm, seen.push e.born, ?_, hcm, by simp [hcnt], hn, hi, hst⟩
    simp [hlt]
theorem next_first_ok (hr : HR P w0 r h w) {it m since last clock ty : Nat} {es : List (V × V × Nat)} {e1 e2 : V × V × Nat} {el : List (V × V × Nat)} {y : Value} (hy : VR r (.ptr it 0) y) (hb : h.t.get it = some (.mapIter (some m) since [] last)) (hm : h.t.get m = some (.map es clock))
    (hf : es.filter (fun e => !([] : List Nat).contains e.2.2) = e1 :: e2 :: el) (hu : uniform e1.2.1 since es = true) (hst : nodupN (stampsOf es) = true) :
    ∃ x u w', HR P w0 r ⟨h.t.set it (.mapIterU m since (stampsOf es) 1 clock), h.nx⟩ w' ∧ VR r e1.2.1 u ∧ (Instr.next y false ty).run P w = .ok (.tuple #[.bool true, x, u]) w' := by
  obtain ⟨c, rfl, hc⟩ := hr.iter_ptr hb rfl hy
  obtain ⟨m', h0, cm, hcm, rfl⟩ := hr.iter hb hc
  obtain ⟨xs, h1, hE⟩ := hr.map hm hcm
  refine next_uni hr (seen := #[]) (hr.iter_z hb rfl hc) hb rfl rfl hc hcm h0 h1 hE hu (by simp) (by simp) (by simp) (nodupN_ok hst) rfl (.inl ?_)
  have hl := (hE.arr []).length
  rw [hf] at hl
  simp only [List.length_cons] at hl
  rw [Array.length_toList] at hl
  have hl' : el.length + 1 + 1 = (Array.filter (fun e => !(#[] : Array Nat).contains e.born) xs).size := hl
  rw [← hl']; omega
theorem pigeon : ∀ (seen st : List Nat), seen.Nodup → st.Nodup → (∀ x ∈ seen, x ∈ st) → seen.length ≤ st.length ∧ (seen.length = st.length → ∀ x ∈ st, x ∈ seen)
  | [], st, _, _, _ => ⟨by simp, fun h x hx => by rw [List.length_nil] at h; rw [List.length_eq_zero_iff.1 h.symm] at hx; cases hx⟩
  | a :: seen, st, h1, h2, h3 => by
    obtain ⟨hna, hnd⟩ := List.nodup_cons.1 h1
    have ha := h3 a (List.mem_cons_self ..)
    have hl := List.length_erase_of_mem ha
    have hpos : 0 < st.length := List.length_pos_of_mem ha
    obtain ⟨i1, i2⟩ := pigeon seen (st.erase a) hnd (h2.erase a) (fun x hx => by
      have hne : x ≠ a := fun e => hna (e ▸ hx)
      exact (List.mem_erase_of_ne hne).2 (h3 x (List.mem_cons_of_mem _ hx)))
    refine ⟨by simp only [List.length_cons]; omega, fun he x hx => ?_⟩
    by_cases hxa : x = a
    · subst hxa; exact List.mem_cons_self ..
    · exact List.mem_cons_of_mem _ (i2 (by simp only [List.length_cons] at he; omega) x ((List.mem_erase_of_ne hxa).2 hx))
theorem next_more_ok (hr : HR P w0 r h w) {it m since last clock ty cnt : Nat} {st : List Nat} {es : List (V × V × Nat)} {e1 : V × V × Nat} {el : List (V × V × Nat)} {y : Value} (hy : VR r (.ptr it 0) y) (hb : h.t.get it = some (.mapIterU m since st cnt last)) (hm : h.t.get m = some (.map es clock))
    (hse : stampsOf es = st) (hg : (!es.isEmpty && es.all fun e => Nat.ble last e.2.2) = false) (_hes : es = e1 :: el) (hu : uniform e1.2.1 since es = true) (hne : cnt ≠ st.length) :
    ∃ x u w', HR P w0 r ⟨h.t.set it (.mapIterU m since (stampsOf es) (cnt + 1) clock), h.nx⟩ w' ∧ VR r e1.2.1 u ∧ (Instr.next y false ty).run P w = .ok (.tuple #[.bool true, x, u]) w' := by
  obtain ⟨c, rfl, hc⟩ := hr.iter_ptr hb rfl hy
  obtain ⟨cm, seen, h0, hcm, hs, hnd, hin, hst⟩ := hr.iterU hb hc
  obtain ⟨xs, h1, hE⟩ := hr.map hm hcm
  subst hse
  have hg' : (!seen.isEmpty && !xs.isEmpty && xs.all fun e => decide (e.born ≥ last)) = false := by
    have e1 := all_ok last hE
    have e2 := hE.isEmpty
    rw [Array.isEmpty_toList] at e2
    rw [Array.all_toList] at e1
    rw [e1, e2, Bool.and_assoc, hg, Bool.and_false]
  refine next_uni hr (hr.iter_z hb rfl hc) hb rfl rfl hc hcm h0 h1 hE hu hg' hnd hin hst hs ?_
  -- some entry has not been seen
  have hex : ∃ e ∈ xs, e.born ∉ seen.toList := by
    refine Classical.byContradiction fun hno => hne ?_
    have hall : ∀ x ∈ stampsOf es, x ∈ seen.toList := fun x hx => by
      rw [← stampsOf_ok hE] at hx
      obtain ⟨e, he, rfl⟩ := List.mem_map.1 hx
      exact Classical.byContradiction fun h => hno ⟨e, by simpa using he, h⟩
    have p1 := (pigeon _ _ hnd hst hin).1
    have p2 := (pigeon _ _ hst hnd hall).1
    have : seen.toList.length = cnt := by simpa using hs
    omega
  obtain ⟨e, he, hns⟩ := hex
  have hmem : e ∈ xs.filter (fun e => !seen.contains e.born) := Array.mem_filter.2 ⟨he, by simpa using hns⟩
  have hpos := Array.size_pos_of_mem hmem
  rcases Nat.lt_or_ge 1 (xs.filter fun e => !seen.contains e.born).size with h | h
  · exact .inl h
  · exact .inr (one_elem (by omega))
theorem next_done_ok (hr : HR P w0 r h w) {it m since last clock ty cnt : Nat} {st : List Nat} {es : List (V × V × Nat)} {y : Value} (hy : VR r (.ptr it 0) y) (hb : h.t.get it = some (.mapIterU m since st cnt last)) (hm : h.t.get m = some (.map es clock))
    (hse : stampsOf es = st) (hg : (!es.isEmpty && es.all fun e => Nat.ble last e.2.2) = false) (hne : cnt = st.length) : (Instr.next y false ty).run P w = .ok (.tuple #[.bool false]) w := by
  obtain ⟨c, rfl, hc⟩ := hr.iter_ptr hb rfl hy
  obtain ⟨cm, seen, h0, hcm, hs, hnd, hin, hst⟩ := hr.iterU hb hc
  obtain ⟨xs, h1, hE⟩ := hr.map hm hcm
  subst hse
  have hg' : (!seen.isEmpty && !xs.isEmpty && xs.all fun e => decide (e.born ≥ last)) = false := by
    have e1 := all_ok last hE
    have e2 := hE.isEmpty
    rw [Array.isEmpty_toList] at e2
    rw [Array.all_toList] at e1
    rw [e1, e2, Bool.and_assoc, hg, Bool.and_false]
  obtain ⟨_, h2, _⟩ := next_run (P := P) (ty := ty) h0 h1 hg'
  refine h2 (Array.filter_eq_empty_iff.2 fun e he => ?_)
  have hall := (pigeon _ _ hnd hst hin).2 (by rw [Array.length_toList]; omega)
  have : e.born ∈ seen.toList := hall _ (by rw [← stampsOf_ok hE]; exact List.mem_map.2 ⟨e, by simpa using he, rfl⟩)
  simpa using this
end ops
end
end Go.Ev
/- The step machine: allocations that the world carries out later than the machine. -/
namespace Go.Ev
open Go Go.RowKit
noncomputable section
section ops
variable {P : Program} {w : World} {r : Ren}
/-- A block comes, of content ao; the value that comes with it is g of its number. -/
def AllocOut (P : Program) (r : Ren) (w : World) (s : Sem Value) (ao : AObj) (g : Nat → V) : Prop :=
  ∃ obj x, s.run P w = .ok x (w.alloc obj) ∧ ∀ (b : Nat) (r' : Ren), r.le r' → r'.at_ b = some w.heap.size → r'.sh b = 0 → OR P r' (some obj) b ao ∧ VR r' (g b) x
theorem cells_or {r' : Ren} {vs : List V} {cs : Array Value} {elem b : Nat} (hv : VRs r vs cs.toList) (hl : r.le r') (hz : r'.sh b = 0) : OR P r' (some (.cells cs elem (0, 0))) b (.cells elem true false vs.length [] (sets vs .e 0)) := by
  refine ⟨cs, (0, 0), rfl, fun _ => no_fz _, fun i v hi => ?_, ?_, fun h => (by cases h), fun _ => ?_⟩
  · obtain ⟨x, hx, hr⟩ := hv.get (cellAt_new vs hi)
    exact ⟨x, by rw [hz, Nat.zero_add]; simpa using hx, hr.mono hl⟩
  · have := hv.length; simp at this; omega
  · exact ⟨hz, by have := hv.length; simp at this; omega⟩
theorem alloc_out {t : Nat} {z : V} (hz : zeroV P t = some z) : AllocOut P r w (Instr.alloc t true (.tuple #[])) (.cells t true false z.cells.length [] (sets z.cells .e 0)) (fun b => .ptr b 0) := by
  obtain ⟨i, zv, hi, hzv, _, hcs⟩ := zeroV_spec (r := r) hz
  exact ⟨_, _, by simp [Instr.alloc, run_zeroValue hi hzv, Result.andThen, newVar, alloc_run], fun b r' hl hb hz => ⟨cells_or hcs hl hz, .ptr _ 0 _ 0 hb hz⟩⟩
theorem box_out {t : Nat} {v : V} {x : Value} {vc : List V} (hv : VR r v x) (hc : v.cellsO = some vc) : AllocOut P r w (Instr.box t x) (.cells t true false vc.length [] (sets vc .e 0)) (fun b => .ptr b 0) :=
  ⟨_, _, by simp [Instr.box, Result.andThen, newVar, alloc_run], fun b r' hl hb hz => ⟨cells_or (hv.cellsO hc) hl hz, .ptr _ 0 _ 0 hb hz⟩⟩
theorem makeMap_out {t : Nat} : AllocOut P r w (Instr.makeMap t none) (.map [] 0) (fun b => .map b) :=
  ⟨.map #[] 0, .map (some w.heap.size), by simp [Instr.makeMap, Result.andThen], fun b r' _ hb _ => ⟨⟨#[], rfl, .nil⟩, .map _ _ hb⟩⟩
theorem buildSlice_out {t elem esz len : Nat} {g : Bool} {ps : List (Nat × V)} {xs : List (Nat × Value)} {z : V} {l : List V} (hs : sliceElem P t = some (elem, esz, g)) (hp : PRs r ps xs) (hpos : 0 < esz) (hz : zeroV P elem = some z)
    (hzl : z.cells.length = esz) (hsm : len * esz ≤ 16777216) (hf : fillL (fun i => some (Nat.mul i esz, esz)) (repl z.cells len []) ps = some l) :
    AllocOut P r w (Instr.buildSlice t len ⟨xs⟩) (.cells elem true false l.length [] (sets l .e 0)) (fun b => .sl b 0 len (.exact len)) := by
  obtain ⟨hu, ht⟩ := sliceElem_spec hs
  obtain ⟨_, hsz, _⟩ := tyI_spec ht
  obtain ⟨i, zv, hi, hzv, _, hcs⟩ := zeroV_spec (r := r) hz
  have hcl : zv.cells.size = esz := by rw [← hzl, hcs.length]; simp
  have hzeros : VRs r (repl z.cells len []) (((Array.range (len * esz)).map fun i => (if len * esz = 0 then #[] else zv.cells)[i % (if len * esz = 0 then #[] else zv.cells).size]!).toList) := by
    by_cases h0 : len * esz = 0
    · have : len = 0 := by rcases Nat.mul_eq_zero.1 h0 with h | h <;> omega
      subst this
      simp [repl]; exact .nil
    · rw [if_neg h0]
      refine VRs.of_get' (by rw [repl_length]; simp [hzl]) fun i v u hv hu' => ?_
      rw [repl_get] at hv
      split at hv
      · rename_i hlt
        obtain ⟨v', x, e1, e2, hvr⟩ := zeros_get hcs (by omega) (n := len * esz) (by rw [← hzl]; exact hlt)
        rw [hv] at e1; cases e1
        rw [Array.getElem?_toList] at hu'
        have hu2 := hu'
        rw [e2] at hu2; cases hu2
        exact hvr
      · cases hv
  obtain ⟨arr, e1, e2⟩ := fillL_ok (place' := fun i => some (i * esz, esz)) (fun i p hp => hp) hp hzeros hf
  refine ⟨.cells arr elem (0, 0), .slice (some ⟨w.heap.size, 0, none⟩) len len, ?_, fun b r' hl hb hz => ⟨cells_or e2 hl hz, .slx _ 0 _ _ _ 0 hb hz⟩⟩
  by_cases h0 : len * esz = 0
  · simp only [h0, if_true] at e1
    simp [Instr.buildSlice, run_underlying hu, hsz, Result.andThen, h0] at e1 ⊢
    simp [e1, Result.andThen, alloc_run]
  · simp only [h0, if_false] at e1
    have hsm' : ¬ (len * esz > 2 ^ 24) := by omega
    simp [Instr.buildSlice, run_underlying hu, hsz, Result.andThen, h0, hsm', run_zeroValue hi hzv, e1, alloc_run]
theorem makeSlice_out {t elem esz l c by_ : Nat} {g : Bool} {z : V} {kl kc : IntKind} (hs : sliceElem P t = some (elem, esz, g)) (hpos : 0 < esz) (hz : zeroV P elem = some z) (hb : bytesT P elem = some by_)
    (hzl : z.cells.length = esz) (hlc : l ≤ c) (hsm : (c + 1) * (by_ + 1) ≤ 100000000) :
    AllocOut P r w (Instr.makeSlice t (.int kl (l : Int)) (.int kc (c : Int))) (.cells elem true false (c * esz) z.cells .e) (fun b => .sl b 0 l (.exact c)) := by
  obtain ⟨hu, ht⟩ := sliceElem_spec hs
  obtain ⟨_, hsz, _⟩ := tyI_spec ht
  obtain ⟨i, zv, hi, hzv, _, hcs⟩ := zeroV_spec (r := r) hz
  obtain ⟨i', hi', hby⟩ := bytesT_spec hb
  obtain rfl : i' = i := by rw [hi] at hi'; exact (Option.some.inj hi').symm
  have hcl : zv.cells.size = esz := by rw [← hzl, hcs.length]; simp
  have hc1 : c ≤ 100000000 := by
    have := Nat.le_mul_of_pos_right (c + 1) (show 0 < by_ + 1 by omega); omega
  have hbc : by_ * c ≤ 100000000 := by
    rw [Nat.mul_comm]
    exact Nat.le_trans (Nat.mul_le_mul (by omega) (by omega)) hsm
  have hbl : by_ * l ≤ 100000000 := Nat.le_trans (Nat.mul_le_mul_left _ hlc) hbc
  let arr : Array Value := (Array.range (c * esz)).map fun i => (if c * esz = 0 then #[] else zv.cells)[i % (if c * esz = 0 then #[] else zv.cells).size]!
  refine ⟨.cells arr elem, .slice (some ⟨w.heap.size, 0, none⟩) l c, ?_, fun b r' hle hb' hz0 => ⟨⟨arr, (0, 0), rfl, fun _ => no_fz _, fun i v hv => (by
      rw [cellAt_eq, T.get_e] at hv
      dsimp only at hv
      split at hv
      · rename_i hlt
        have h0 : ¬ c * esz = 0 := by omega
        obtain ⟨v', x, e1, e2, hvr⟩ := zeros_get hcs (by omega) (n := c * esz) hlt
        have e3 : z.cells[i % z.cells.length]? = some v := by
          unfold zget at hv
          split at hv
          · cases hv
          · rename_i y hy; rw [hy]; simp [Nat.mod_one]; exact Option.some.inj hv
          · exact hv
        rw [e3] at e1; cases e1
        refine ⟨x, ?_, hvr.mono hle⟩
        rw [hz0, Nat.zero_add]
        show ((Array.range (c * esz)).map fun i => (if c * esz = 0 then #[] else zv.cells)[i % (if c * esz = 0 then #[] else zv.cells).size]!)[i]? = some x
        rw [if_neg h0]; exact e2
      · cases hv), by rw [hz0]; simp [arr], by simp, fun _ => ⟨hz0, by simp [arr]⟩⟩, .slx _ 0 _ _ _ 0 hb' hz0⟩⟩
  have n1 : ¬ (281474976710656 < (by_ : Int) * (c : Int)) := by
    have : ((by_ * c : Nat) : Int) ≤ 100000000 := by omega
    rw [Int.natCast_mul] at this; omega
  have n2 : ¬ ((c : Int) < 0) := by omega
  have n3 : ¬ ((l : Int) < 0) := by omega
  have n4 : ¬ ((c : Int) < (l : Int)) := by omega
  have w1 := i64_small hc1
  have w2 := i64_small (Nat.le_trans hlc hc1)
  by_cases h0 : c * esz = 0
  · simp [Instr.makeSlice, run_underlying hu, asInt, asIntOf, typeInfo, hi, hby, Result.andThen, w1, w2, n1, n2, n3, n4, hsz, h0, alloc_run, arr]
  · simp [Instr.makeSlice, run_underlying hu, asInt, asIntOf, typeInfo, hi, hby, Result.andThen, w1, w2, n1, n2, n3, n4, hsz, h0, alloc_run, arr, run_zeroValue hi hzv]
end ops
end
end Go.Ev
