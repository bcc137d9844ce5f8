/- The step machine: maps. -/
import Derived.Test.YthadnmpneonmfaaGreatDoorEvK
namespace Go.Ev
open Go Go.RowKit
noncomputable section
section ops
variable {P : Program} {w0 : Base} {w : World} {r : Ren} {h : H} {tm : Nat → Option V} {ρ : Operand → Value}
variable {β : Type} {kv : V → H → Option β} {res : β}

theorem mset_ok {key v : V} {x u : Value} (hk : VR r key x) (hv : VR r v u) : ∀ {es : List (V × V × Nat)} {xs : List MapEntry} (i : Nat), ERs r es xs → ERs r (mset es i key v) (xs.modify i fun e => { e with key := x, val := u })
  | _, _, _, .nil => by simp [mset]; exact .nil
  | _, _, 0, .cons _ _ b _ _ es xs _ _ h => .cons key v b x u es xs hk hv h
  | _, _, i + 1, .cons k' v' b y z es xs h1 h2 h => .cons k' v' b y z _ _ h1 h2 (mset_ok hk hv i h)
theorem ERs.snoc {key v : V} {x u : Value} {c : Nat} (hk : VR r key x) (hv : VR r v u) : ∀ {es : List (V × V × Nat)} {xs : List MapEntry}, ERs r es xs → ERs r (es ++ [(key, v, c)]) (xs ++ [⟨x, u, c⟩])
  | _, _, .nil => .cons _ _ _ _ _ _ _ hk hv .nil
  | _, _, .cons k' v' b y z es xs h1 h2 h => .cons k' v' b y z _ _ h1 h2 (ERs.snoc hk hv h)
theorem ERs.erase : ∀ {es : List (V × V × Nat)} {xs : List MapEntry} (i : Nat), ERs r es xs → ERs r (es.eraseIdx i) (xs.eraseIdx i)
  | _, _, _, .nil => .nil
  | _, _, 0, .cons _ _ _ _ _ _ _ _ _ h => h
  | _, _, i + 1, .cons k' v' b y z es xs h1 h2 h => .cons k' v' b y z _ _ h1 h2 (ERs.erase i h)
theorem setObj_run {c : Nat} {o o' : Obj} (ho : w.heap[c]? = some o) (hn : ∀ cs e f, o ≠ .cells cs e f) : (setObj c o').run P w = .ok () { w with heap := w.heap.setIfInBounds c o' } := by
  cases o <;> first | (simp [setObj, Sem.run, ho]; done) | exact absurd rfl (hn _ _ _)
/-- A map's new entries. -/
theorem HR.setMap (hr : HR P w0 r h w) {b c clock clock' : Nat} {es es' : List (V × V × Nat)} {xs' : Array MapEntry} (hb : h.t.get b = some (.map es clock)) (hc : r.at_ b = some c) (hE : ERs r es' xs'.toList) :
    HR P w0 r ⟨h.t.set b (.map es' clock'), h.nx⟩ { w with heap := w.heap.setIfInBounds c (.map xs' clock') } := by
  obtain ⟨xs, h0, _⟩ := hr.map hb hc
  have hlt : c < w.heap.size := (Array.getElem?_eq_some_iff.1 h0).1
  exact hr.upd hb rfl rfl hc (Upd.setObj _) fun _ => ⟨xs', by simp [hlt], hE⟩
theorem mapUpdate_ok (hr : HR P w0 r h w) {t kt et b : Nat} {key v : V} {ym yk yv : Value} (hu : P.underlying t = some (.map kt et)) (hm : VR r (.map b) ym) (hk : VR r key yk) (hv : VR r v yv) (hpk : plainKey P kt key = true)
    {es : List (V × V × Nat)} {clock : Nat} (hb : h.t.get b = some (.map es clock)) {fr : Option (Nat × V)} (hf : kfind key es 0 = some fr) :
    ∃ h' w', HR P w0 r h' w' ∧ (Instr.mapUpdate t ym yk yv).run P w = .ok () w' ∧ h' = ⟨h.t.set b (match fr with | some (i, _) => .map (mset es i key v) clock | none => .map (es ++ [(key, v, clock)]) (Nat.succ clock)), h.nx⟩ := by
  obtain ⟨c, rfl, hc⟩ := hm.map_inv
  obtain ⟨xs, h0, hE⟩ := hr.map hb hc
  obtain ⟨d, hd, hkey, hshape⟩ := plainKey_spec hpk hk
  have hck : (Instr.checkKey false 10000 kt yk).run P w = .ok () w := MapKept.run_checkKey hd hkey false 9999
  have hg := getObj_run (P := P) h0 (by intros; simp)
  have hs : ∀ o', (setObj c o').run P w = .ok () { w with heap := w.heap.setIfInBounds c o' } := fun o' => setObj_run h0 (by intros; simp)
  rcases kfind_ok hshape hk 0 hE hf with ⟨e1, e2⟩ | ⟨j, v', u, e, e1, _, e3, _, e5, e6⟩
  · subst e1
    have hfk := MapKept.run_findKey (P := P) (w := w) hd e2
    refine ⟨_, _, hr.setMap (clock' := clock + 1) (es' := es ++ [(key, v, clock)]) (xs' := xs.push ⟨yk, yv, clock⟩) hb hc (by simpa using hE.snoc hk hv), ?_, rfl⟩
    simp [Instr.mapUpdate, run_underlying hu, hg, hck, hfk, hs, Result.andThen]
  · subst e1
    have hfk := MapKept.run_findKey (P := P) (w := w) hd e3
    have e5' : xs[j]? = some e := by simpa using e5
    refine ⟨_, _, hr.setMap (clock' := clock) (es' := mset es j key v) (xs' := xs.modify j fun e => { e with key := yk, val := yv }) hb hc (by rw [Array.toList_modify]; exact mset_ok hk hv j hE), ?_, rfl⟩
    simp [Instr.mapUpdate, run_underlying hu, hg, hck, hfk, hs, Result.andThen, e5', Instr.keyThatStays, e6]
theorem delete_ok (hr : HR P w0 r h w) {t kt et ty b : Nat} {key : V} {ym yk : Value} {ts : List Nat} {ys : List Value} (hu : P.underlying t = some (.map kt et)) (hm : VR r (.map b) ym) (hk : VR r key yk) (hpk : plainKey P kt key = true)
    {es : List (V × V × Nat)} {clock : Nat} (hb : h.t.get b = some (.map es clock)) {fr : Option (Nat × V)} (hf : kfind key es 0 = some fr) :
    ∃ w', HR P w0 r (match fr with | some (i, _) => ⟨h.t.set b (.map (es.eraseIdx i) clock), h.nx⟩ | none => h) w' ∧ (Builtin.delete_ ⟨t :: ts⟩ ty ⟨ym :: yk :: ys⟩).run P w = .ok (.tuple #[]) w' := by
  obtain ⟨c, rfl, hc⟩ := hm.map_inv
  obtain ⟨xs, h0, hE⟩ := hr.map hb hc
  obtain ⟨d, hd, hkey, hshape⟩ := plainKey_spec hpk hk
  have hck : ∀ e, (Instr.checkKey e 10000 kt yk).run P w = .ok () w := fun e => MapKept.run_checkKey hd hkey e 9999
  have hg := getObj_run (P := P) h0 (by intros; simp)
  have hs : ∀ o', (setObj c o').run P w = .ok () { w with heap := w.heap.setIfInBounds c o' } := fun o' => setObj_run h0 (by intros; simp)
  have hlt : c < w.heap.size := (Array.getElem?_eq_some_iff.1 h0).1
  rcases kfind_ok hshape hk 0 hE hf with ⟨e1, e2⟩ | ⟨j, v', u, e, e1, _, e3, _, e5, e6⟩
  · subst e1
    have hfk := MapKept.run_findKey (P := P) (w := w) hd e2
    refine ⟨{ w with heap := w.heap.setIfInBounds c (.map xs clock) }, ?_, ?_⟩
    · refine hr.same ?_ rfl rfl rfl
      apply Array.ext_getElem?
      intro i
      by_cases hi : i = c
      · subst hi; simp [hlt, h0]; rw [Array.getElem?_eq_getElem hlt] at h0; exact (Option.some.inj h0).symm
      · exact Array.getElem?_setIfInBounds_ne (Ne.symm hi)
    · simp [Builtin.delete_, run_underlying hu, hg, hck, hfk, hs, Result.andThen]
  · subst e1
    have hfk := MapKept.run_findKey (P := P) (w := w) hd e3
    refine ⟨_, hr.setMap (clock' := clock) (es' := es.eraseIdx j) (xs' := xs.eraseIdxIfInBounds j) hb hc (by rw [Array.toList_eraseIdxIfInBounds]; exact hE.erase j), ?_⟩
    simp [Builtin.delete_, run_underlying hu, hg, hck, hfk, hs, Result.andThen]
theorem delete_nil {t kt et ty : Nat} {key : V} {yk : Value} {ts : List Nat} {ys : List Value} (hu : P.underlying t = some (.map kt et)) (hk : VR r key yk) (hpk : plainKey P kt key = true) :
    (Builtin.delete_ ⟨t :: ts⟩ ty ⟨.map none :: yk :: ys⟩).run P w = .ok (.tuple #[]) w := by
  obtain ⟨d, hd, hkey, hshape⟩ := plainKey_spec hpk hk
  have hck : ∀ e, (Instr.checkKey e 10000 kt yk).run P w = .ok () w := fun e => MapKept.run_checkKey hd hkey e 9999
  simp [Builtin.delete_, run_underlying hu, hck, Result.andThen]
theorem range_nil_ok (hr : HR P w0 r h w) {t k e : Nat} {y : Value} (hu : P.underlying t = some (.map k e)) (hy : VR r .nilm y) (hk : newObjK h (.mapIter none 0 [] 0) (fun b h => kv (.ptr b 0) h) = some res) :
    ValOut P w0 r w (Instr.range t y) kv res := by
  rw [hy.nilm_inv]
  obtain ⟨h', r', h1, h2, h3, h5⟩ := newObjK_ok (o := .mapIter none 0 #[] 0) (ao := .mapIter none 0 [] 0) hr ⟨none, rfl, rfl⟩ hk
  exact ⟨_, h', r', _, _, h1, h2, .ptr _ 0 _ h3, by simp [Instr.range, run_underlying hu, Result.andThen], h5⟩
theorem range_map_ok (hr : HR P w0 r h w) {t k e m clock : Nat} {y : Value} {es : List (V × V × Nat)} (hu : P.underlying t = some (.map k e)) (hy : VR r (.map m) y) (hb : h.t.get m = some (.map es clock))
    (hk : newObjK h (.mapIter (some m) clock [] clock) (fun b h => kv (.ptr b 0) h) = some res) : ValOut P w0 r w (Instr.range t y) kv res := by
  obtain ⟨c, rfl, hc⟩ := hy.map_inv
  obtain ⟨xs, h0, hE⟩ := hr.map hb hc
  have hg := getObj_run (P := P) h0 (by intros; simp)
  obtain ⟨h', r', h1, h2, h3, h5⟩ := newObjK_ok (o := .mapIter (some c) clock #[] clock) (ao := .mapIter (some m) clock [] clock) hr ⟨some c, rfl, c, (Ren.ext_le hr.none_nx _ _ hc).1, rfl⟩ hk
  exact ⟨_, h', r', _, _, h1, h2, .ptr _ 0 _ h3, by simp [Instr.range, run_underlying hu, hg, Result.andThen], h5⟩
theorem range_str_ok (hr : HR P w0 r h w) {t : Nat} {y : Value} {s : List Nat} (hu : P.underlying t = some .string) (hy : VR r (.str s) y)
    (hk : newObjK h (.strIter s 0) (fun b h => kv (.ptr b 0) h) = some res) : ValOut P w0 r w (Instr.range t y) kv res := by
  obtain ⟨x, rfl, hx⟩ := hy.str_inv
  obtain ⟨h', r', h1, h2, h3, h5⟩ := newObjK_ok (o := .stringIter x 0) (ao := .strIter s 0) hr ⟨x, rfl, hx⟩ hk
  exact ⟨_, h', r', _, _, h1, h2, .ptr _ 0 _ h3, by simp [Instr.range, run_underlying hu, Result.andThen], h5⟩
end ops
end
end Go.Ev
