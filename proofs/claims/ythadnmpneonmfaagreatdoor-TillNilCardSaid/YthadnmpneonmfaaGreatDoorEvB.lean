/- The step machine: its memory and the world's. -/
import Derived.Test.YthadnmpneonmfaaGreatDoorEvA
namespace Go.Ev
open Go Go.RowKit
noncomputable section

/-- Slots. -/
structure TR (r : Ren) (tm : T V) (n : Nat) (tmps : Array Value) : Prop where
  size : tmps.size = n
  at_ : ∀ t v, tm.get t = some v → ∃ x, tmps[t]? = some x ∧ VR r v x
theorem TR.mono {r s : Ren} (hl : r.le s) {tm : T V} {n : Nat} {tmps : Array Value} (h : TR r tm n tmps) : TR s tm n tmps :=
  ⟨h.size, fun t v hv => let ⟨x, hx, hr⟩ := h.at_ t v hv; ⟨x, hx, hr.mono hl⟩⟩
theorem TR.put {r : Ren} {tm : T V} {n d : Nat} {tmps : Array Value} {v : V} {x : Value} (h : TR r tm n tmps) (hd : d < n) (hv : VR r v x) : TR r (tm.set d v) n (tmps.setIfInBounds d x) :=
  ⟨by simp [h.size], fun t u hu => by
    rw [T.get_set] at hu
    by_cases he : t = d
    · subst he; simp at hu; subst hu; exact ⟨x, by simp [h.size, hd], hv⟩
    · rw [if_neg he] at hu
      obtain ⟨y, hy, hr⟩ := h.at_ t u hu
      exact ⟨y, by rw [Array.getElem?_setIfInBounds_ne (Ne.symm he)]; exact hy, hr⟩⟩

/-- Entries of a map. -/
inductive ERs (r : Ren) : List (V × V × Nat) → List MapEntry → Prop
  | nil : ERs r [] []
  | cons (k v : V) (b : Nat) (x y : Value) (es : List (V × V × Nat)) (xs : List MapEntry) (hk : VR r k x) (hv : VR r v y) (h : ERs r es xs) : ERs r ((k, v, b) :: es) (⟨x, y, b⟩ :: xs)
theorem ERs.mono {r s : Ren} (hl : r.le s) : ∀ {es : List (V × V × Nat)} {xs : List MapEntry}, ERs r es xs → ERs s es xs
  | _, _, .nil => .nil
  | _, _, .cons k v b x y es xs hk hv h => .cons k v b x y es xs (hk.mono hl) (hv.mono hl) (ERs.mono hl h)

def optAt (r : Ren) : Option Nat → Option Nat → Prop
  | none, m' => m' = none
  | some m, m' => ∃ c, r.at_ m = some c ∧ m' = some c
def AObj.live : AObj → Bool
  | .dead => false
  | .dfrNone => false
  | _ => true
def AObj.rw : AObj → Bool
  | .cells _ rw _ _ _ _ => rw
  | .dead => false
  | _ => true
/-- What an object of the machine's memory stands for. -/
def OR (P : Program) (r : Ren) (o : Option Obj) (b : Nat) : AObj → Prop
  | .dead => True
  | .dfrNone => True
  | .cells elem rw opn size z t => ∃ cs fz, o = some (.cells cs elem fz) ∧ (rw = true → ∀ i, i < cs.size → ¬ (fz.1 ≤ i ∧ i < fz.2)) ∧
      (∀ i v, cellAt t size z i = some v → ∃ x, cs[i]? = some x ∧ VR r v x) ∧ size ≤ cs.size ∧ (opn = true → cs.size = r.cap b * P.cellsOf elem)
  | .map es clock => ∃ xs, o = some (.map xs clock) ∧ ERs r es xs.toList
  | .mapIter m since seen stepped => ∃ m', o = some (.mapIter m' since seen.toArray stepped) ∧ optAt r m m'
  | .mapIterU m since st cnt stepped => ∃ m' seen, o = some (.mapIter (some m') since seen stepped) ∧ r.at_ m = some m' ∧ seen.size = cnt ∧ seen.toList.Nodup ∧ (∀ x ∈ seen.toList, x ∈ st) ∧ st.Nodup
  | .strIter s pos => ∃ x, o = some (.stringIter x pos) ∧ x.data.toList.map UInt8.toNat = s
  | .loop st pending fn n tm params assign body d => ∃ tmps d', o = some (.loop ⟨st, pending, fn, tmps, params.toArray, assign, body, d'⟩) ∧ TR r tm n tmps ∧ r.at_ d = some d'
  | .dfr => o = some (.deferred (some []))
theorem OR.mono {P : Program} {r s : Ren} (hl : r.le s) {ob : Option Obj} {b c : Nat} (hb : r.at_ b = some c) {o : AObj} (h : OR P r ob b o) : OR P s ob b o := by
  cases o with
  | dead => trivial
  | dfrNone => trivial
  | cells elem rw opn size z t =>
    obtain ⟨cs, fz, h0, h1, h2, h3, h4⟩ := h
    exact ⟨cs, fz, h0, h1, fun i v hv => let ⟨x, hx, hr⟩ := h2 i v hv; ⟨x, hx, hr.mono hl⟩, h3, fun ho => by rw [(hl b c hb).2]; exact h4 ho⟩
  | map es clock => obtain ⟨xs, h0, h1⟩ := h; exact ⟨xs, h0, h1.mono hl⟩
  | mapIter m since seen stepped =>
    obtain ⟨m', h0, h1⟩ := h
    refine ⟨m', h0, ?_⟩
    cases m with
    | none => exact h1
    | some m => obtain ⟨c', hc, he⟩ := h1; exact ⟨c', (hl _ _ hc).1, he⟩
  | mapIterU m since st cnt stepped =>
    obtain ⟨m', seen, h0, h1, h2⟩ := h
    exact ⟨m', seen, h0, (hl _ _ h1).1, h2⟩
  | strIter s pos => exact h
  | loop st pending fn n tm params assign body d =>
    obtain ⟨tmps, d', h0, h1, h2⟩ := h
    exact ⟨tmps, d', h0, h1.mono hl, (hl _ _ h2).1⟩
  | dfr => exact h

/-- The world at the beginning; and what is to come: blocks that the machine has already and that the world has not yet, each with the frame (its depth) and the operation that lays it. -/
structure Base where
  w : World
  pend : Nat → Option (AObj × Nat × Nat)
/-- The machine's memory and the world's, in a run that began in w0. -/
structure HR (P : Program) (w0 : Base) (r : Ren) (h : H) (w : World) : Prop where
  ob : ∀ b o, h.t.get b = some o → o.live = true → ∀ d, r.at_ b = some d → ∃ c, r.at_ b = some c ∧ OR P r w.heap[c]? b o ∧ (o.rw = true → w0.w.heap.size ≤ c)
  inj : ∀ b b' o o' c, h.t.get b = some o → o.live = true → h.t.get b' = some o' → o'.live = true → r.at_ b = some c → r.at_ b' = some c → b = b'
  fresh : ∀ b, h.nx ≤ b → r.at_ b = none
  glob : ∀ g, g < 1000 → r.at_ g = some g
  below : Below w0.w.heap.size w0.w w
  keep : ∀ b e, w0.pend b = some e → (∀ o, h.t.get b = some o → o = e.1) ∧ r.at_ b = none ∧ b < h.nx

/-- Only one block has turned. -/
structure Upd (c : Nat) (w w' : World) : Prop where
  os : w'.os = w.os
  tape : w'.tape = w.tape
  output : w'.output = w.output
  size : w'.heap.size = w.heap.size
  block : ∀ k, k ≠ c → w'.heap[k]? = w.heap[k]?
theorem Upd.refl (c : Nat) (w : World) : Upd c w w := ⟨rfl, rfl, rfl, rfl, fun _ _ => rfl⟩
theorem Upd.trans {c : Nat} {a b d : World} (h : Upd c a b) (k : Upd c b d) : Upd c a d :=
  ⟨k.os.trans h.os, k.tape.trans h.tape, k.output.trans h.output, k.size.trans h.size, fun i hi => (k.block i hi).trans (h.block i hi)⟩
theorem Upd.below {B c : Nat} {w w' : World} (h : Upd c w w') (hB : B ≤ c) : Below B w w' :=
  ⟨h.os, h.tape, h.output, by rw [h.size]; exact Nat.le_refl _, fun k hk => h.block k (by omega)⟩
theorem Upd.setObj {w : World} {c : Nat} (o : Obj) : Upd c w { w with heap := w.heap.setIfInBounds c o } :=
  ⟨rfl, rfl, rfl, by simp, fun k hk => by simp [Array.getElem?_setIfInBounds_ne (Ne.symm hk)]⟩
section
variable {P : Program} {w0 : Base} {w w' : World} {r : Ren} {h : H}
theorem HR.upd {b c : Nat} {o o' : AObj} (hr : HR P w0 r h w) (hb : h.t.get b = some o) (hl : o.live = true) (hrw : o.rw = true) (hc : r.at_ b = some c) (u : Upd c w w')
    (ho' : o'.live = true → OR P r w'.heap[c]? b o') : HR P w0 r ⟨h.t.set b o', h.nx⟩ w' := by
  obtain ⟨c', hc', _, hge⟩ := hr.ob b o hb hl _ hc
  obtain rfl : c' = c := by rw [hc] at hc'; exact (Option.some.inj hc').symm
  refine ⟨?_, ?_, hr.fresh, hr.glob, hr.below.trans (u.below (hge hrw)), fun b1 o1 hp => ?_⟩
  · intro b1 o1 h1 l1 d1 hd1
    rw [T.get_set] at h1
    by_cases he : b1 = b
    · subst he; simp at h1; subst h1
      exact ⟨c', hc, ho' l1, fun _ => hge hrw⟩
    · rw [if_neg he] at h1
      obtain ⟨d, hd, hO, hg⟩ := hr.ob b1 o1 h1 l1 _ hd1
      refine ⟨d, hd, ?_, hg⟩
      have hne : d ≠ c' := fun e => he (hr.inj b1 b o1 o c' h1 l1 hb hl (e ▸ hd) hc)
      rw [u.block d hne]; exact hO
  · intro b1 b2 o1 o2 d h1 l1 h2 l2 hd1 hd2
    rw [T.get_set] at h1 h2
    by_cases e1 : b1 = b <;> by_cases e2 : b2 = b
    · rw [e1, e2]
    · subst e1; rw [if_neg e2] at h2
      exact (hr.inj b2 b1 o2 o d h2 l2 hb hl hd2 hd1).symm
    · subst e2; rw [if_neg e1] at h1
      exact hr.inj b1 b2 o1 o d h1 l1 hb hl hd1 hd2
    · rw [if_neg e1] at h1; rw [if_neg e2] at h2
      exact hr.inj b1 b2 o1 o2 d h1 l1 h2 l2 hd1 hd2
  · obtain ⟨k1, k2, k3⟩ := hr.keep b1 o1 hp
    have hne : b1 ≠ b := fun e => by subst e; rw [hc] at k2; cases k2
    exact ⟨by rw [T.get_set, if_neg hne]; exact k1, k2, k3⟩
/-- The world turned outside memory alone. -/
theorem HR.same (hr : HR P w0 r h w) (hh : w'.heap = w.heap) (ho : w'.os = w.os) (ht : w'.tape = w.tape) (hp : w'.output = w.output) : HR P w0 r h w' :=
  ⟨fun b o hb hl d hd => by rw [hh]; exact hr.ob b o hb hl d hd, hr.inj, hr.fresh, hr.glob,
    hr.below.trans ⟨ho, ht, hp, by rw [hh]; exact Nat.le_refl _, fun k _ => by rw [hh]⟩, hr.keep⟩
theorem HR.drew (hr : HR P w0 r h w) : HR P w0 r h w.drew := hr.same rfl rfl rfl rfl
/-- What is known of a block falls away. -/
theorem HR.kill (hr : HR P w0 r h w) (b : Nat) {c : Nat} (hc : r.at_ b = some c) : HR P w0 r ⟨h.t.set b .dead, h.nx⟩ w := by
  refine ⟨?_, ?_, hr.fresh, hr.glob, hr.below, fun b1 o1 hp => ?_⟩
  · intro b1 o1 h1 l1 d1 hd1
    rw [T.get_set] at h1
    by_cases he : b1 = b
    · subst he; simp at h1; subst h1; simp [AObj.live] at l1
    · rw [if_neg he] at h1; exact hr.ob b1 o1 h1 l1 d1 hd1
  · intro b1 b2 o1 o2 d h1 l1 h2 l2 hd1 hd2
    rw [T.get_set] at h1 h2
    by_cases e1 : b1 = b
    · subst e1; simp at h1; subst h1; simp [AObj.live] at l1
    · by_cases e2 : b2 = b
      · subst e2; simp at h2; subst h2; simp [AObj.live] at l2
      · rw [if_neg e1] at h1; rw [if_neg e2] at h2
        exact hr.inj b1 b2 o1 o2 d h1 l1 h2 l2 hd1 hd2
  · obtain ⟨k1, k2, k3⟩ := hr.keep b1 o1 hp
    have hne : b1 ≠ b := fun e => by subst e; rw [hc] at k2; cases k2
    exact ⟨by rw [T.get_set, if_neg hne]; exact k1, k2, k3⟩
def Ren.ext (r : Ren) (b c k : Nat) : Ren := ⟨fun x => if x = b then some c else r.at_ x, fun x => if x = b then k else r.cap x⟩
theorem Ren.ext_le {r : Ren} {b c k : Nat} (h : r.at_ b = none) : r.le (r.ext b c k) := fun x d hx => by
  have : x ≠ b := fun e => by subst e; rw [h] at hx; cases hx
  exact ⟨by simp [Ren.ext, this, hx], by simp [Ren.ext, this]⟩
theorem Ren.ext_at (r : Ren) (b c k : Nat) : (r.ext b c k).at_ b = some c := by simp [Ren.ext]
theorem Ren.ext_cap (r : Ren) (b c k : Nat) : (r.ext b c k).cap b = k := by simp [Ren.ext]
theorem HR.none_nx (hr : HR P w0 r h w) : r.at_ h.nx = none := hr.fresh _ (Nat.le_refl _)
theorem OR.live {o : Option Obj} {b : Nat} {ao : AObj} (h : OR P r o b ao) (hl : ao.live = true) : ∃ x, o = some x := by
  cases ao with
  | dead => cases hl
  | dfrNone => cases hl
  | cells => obtain ⟨cs, fz, h0, _⟩ := h; exact ⟨_, h0⟩
  | map => obtain ⟨xs, h0, _⟩ := h; exact ⟨_, h0⟩
  | mapIter => obtain ⟨xs, h0, _⟩ := h; exact ⟨_, h0⟩
  | mapIterU => obtain ⟨xs, _, h0, _⟩ := h; exact ⟨_, h0⟩
  | strIter => obtain ⟨xs, h0, _⟩ := h; exact ⟨_, h0⟩
  | loop => obtain ⟨xs, _, h0, _⟩ := h; exact ⟨_, h0⟩
  | dfr => exact ⟨_, h⟩
theorem HR.lt (hr : HR P w0 r h w) {b c : Nat} {o : AObj} (hb : h.t.get b = some o) (hl : o.live = true) (hc : r.at_ b = some c) : c < w.heap.size := by
  obtain ⟨c', hc', hO, _⟩ := hr.ob b o hb hl _ hc
  obtain rfl : c' = c := by rw [hc] at hc'; exact (Option.some.inj hc').symm
  obtain ⟨x, hx⟩ := hO.live hl
  exact (Array.getElem?_eq_some_iff.1 hx).1
/-- A new block. -/
theorem HR.new (hr : HR P w0 r h w) (o : Obj) (ao : AObj) (k : Nat) (ho : OR P (r.ext h.nx w.heap.size k) (some o) h.nx ao) :
    HR P w0 (r.ext h.nx w.heap.size k) ⟨h.t.set h.nx ao, h.nx + 1⟩ (w.alloc o) ∧ r.le (r.ext h.nx w.heap.size k) := by
  have hle := Ren.ext_le (c := w.heap.size) (k := k) hr.none_nx
  have hnew : (w.alloc o).heap[w.heap.size]? = some o := by show (w.heap.push o)[w.heap.size]? = _; simp
  refine ⟨⟨?_, ?_, ?_, fun g hg => (hle g g (hr.glob g hg)).1, hr.below.alloc hr.below.size o, fun b1 o1 hp => ?_⟩, hle⟩
  · intro b1 o1 h1 l1 d1 hd1
    rw [T.get_set] at h1
    by_cases he : b1 = h.nx
    · subst he; simp at h1; subst h1
      exact ⟨_, Ren.ext_at .., by rw [hnew]; exact ho, fun _ => hr.below.size⟩
    · rw [if_neg he] at h1
      simp [Ren.ext, he] at hd1
      obtain ⟨d, hd, hO, hg⟩ := hr.ob b1 o1 h1 l1 _ hd1
      exact ⟨d, (hle _ _ hd).1, by rw [Below.heap_alloc _ _ _ (hr.lt h1 l1 hd)]; exact hO.mono hle hd, hg⟩
  · intro b1 b2 o1 o2 d h1 l1 h2 l2 hd1 hd2
    rw [T.get_set] at h1 h2
    by_cases e1 : b1 = h.nx <;> by_cases e2 : b2 = h.nx
    · rw [e1, e2]
    · subst e1
      rw [if_neg e2] at h2
      simp [Ren.ext] at hd1; subst hd1
      simp [Ren.ext, e2] at hd2
      exact absurd (hr.lt h2 l2 hd2) (by omega)
    · subst e2
      rw [if_neg e1] at h1
      simp [Ren.ext] at hd2; subst hd2
      simp [Ren.ext, e1] at hd1
      exact absurd (hr.lt h1 l1 hd1) (by omega)
    · rw [if_neg e1] at h1; rw [if_neg e2] at h2
      simp [Ren.ext, e1] at hd1; simp [Ren.ext, e2] at hd2
      exact hr.inj b1 b2 o1 o2 d h1 l1 h2 l2 hd1 hd2
  · intro b hb
    have hb : h.nx + 1 ≤ b := hb
    simp only [Ren.ext]
    rw [if_neg (by omega)]
    exact hr.fresh b (by omega)
  · obtain ⟨k1, k2, k3⟩ := hr.keep b1 o1 hp
    have hne : b1 ≠ h.nx := by omega
    exact ⟨by rw [T.get_set, if_neg hne]; exact k1, by simp [Ren.ext, hne, k2], by show b1 < h.nx + 1; omega⟩
/-- What was to come has come: the world lays the block. -/
theorem HR.name (hr : HR P w0 r h w) {b : Nat} {ao : AObj} {dj : Nat × Nat} (hp : w0.pend b = some (ao, dj)) (o : Obj) (k : Nat) (ho : OR P (r.ext b w.heap.size k) (some o) b ao) :
    HR P ⟨w0.w, fun x => if x = b then none else w0.pend x⟩ (r.ext b w.heap.size k) h (w.alloc o) ∧ r.le (r.ext b w.heap.size k) := by
  obtain ⟨hget, hnone, hlt⟩ := hr.keep b _ hp
  have hle := Ren.ext_le (c := w.heap.size) (k := k) hnone
  have hnew : (w.alloc o).heap[w.heap.size]? = some o := by show (w.heap.push o)[w.heap.size]? = _; simp
  refine ⟨⟨?_, ?_, ?_, fun g hg => (hle g g (hr.glob g hg)).1, hr.below.alloc hr.below.size o, fun b1 o1 hp1 => ?_⟩, hle⟩
  · intro b1 o1 h1 l1 d1 hd1
    by_cases he : b1 = b
    · subst he
      obtain rfl := hget _ h1
      exact ⟨_, Ren.ext_at .., by rw [hnew]; exact ho, fun _ => hr.below.size⟩
    · simp [Ren.ext, he] at hd1
      obtain ⟨d, hd, hO, hg⟩ := hr.ob b1 o1 h1 l1 _ hd1
      exact ⟨d, (hle _ _ hd).1, by rw [Below.heap_alloc _ _ _ (hr.lt h1 l1 hd)]; exact hO.mono hle hd, hg⟩
  · intro b1 b2 o1 o2 d h1 l1 h2 l2 hd1 hd2
    by_cases e1 : b1 = b <;> by_cases e2 : b2 = b
    · rw [e1, e2]
    · subst e1
      simp [Ren.ext] at hd1; subst hd1
      simp [Ren.ext, e2] at hd2
      exact absurd (hr.lt h2 l2 hd2) (by omega)
    · subst e2
      simp [Ren.ext] at hd2; subst hd2
      simp [Ren.ext, e1] at hd1
      exact absurd (hr.lt h1 l1 hd1) (by omega)
    · simp [Ren.ext, e1] at hd1; simp [Ren.ext, e2] at hd2
      exact hr.inj b1 b2 o1 o2 d h1 l1 h2 l2 hd1 hd2
  · intro b1 hb1
    simp only [Ren.ext]
    rw [if_neg (by omega)]
    exact hr.fresh b1 hb1
  · dsimp only at hp1
    split at hp1
    · cases hp1
    · rename_i hne
      obtain ⟨k1, k2, k3⟩ := hr.keep b1 o1 hp1
      exact ⟨k1, by simp [Ren.ext, hne, k2], k3⟩
/-- The machine lays a block ahead of the world. -/
theorem HR.ahead (hr : HR P w0 r h w) (ao : AObj) (dj : Nat × Nat) : HR P ⟨w0.w, fun x => if x = h.nx then some (ao, dj) else w0.pend x⟩ r ⟨h.t.set h.nx ao, h.nx + 1⟩ w := by
  refine ⟨?_, ?_, fun b hb => hr.fresh b (by have : h.nx + 1 ≤ b := hb; omega), hr.glob, hr.below, fun b1 o1 hp1 => ?_⟩
  · intro b1 o1 h1 l1 d1 hd1
    rw [T.get_set] at h1
    by_cases he : b1 = h.nx
    · subst he; rw [hr.none_nx] at hd1; cases hd1
    · rw [if_neg he] at h1; exact hr.ob b1 o1 h1 l1 d1 hd1
  · intro b1 b2 o1 o2 d h1 l1 h2 l2 hd1 hd2
    rw [T.get_set] at h1 h2
    have e1 : b1 ≠ h.nx := fun e => by subst e; rw [hr.none_nx] at hd1; cases hd1
    have e2 : b2 ≠ h.nx := fun e => by subst e; rw [hr.none_nx] at hd2; cases hd2
    rw [if_neg e1] at h1; rw [if_neg e2] at h2
    exact hr.inj b1 b2 o1 o2 d h1 l1 h2 l2 hd1 hd2
  · dsimp only at hp1
    split at hp1
    · rename_i he; subst he; cases hp1
      exact ⟨fun o ho => by rw [T.get_set, if_pos rfl] at ho; exact (Option.some.inj ho).symm, hr.none_nx, by show h.nx < h.nx + 1; omega⟩
    · rename_i hne
      obtain ⟨k1, k2, k3⟩ := hr.keep b1 o1 hp1
      exact ⟨by rw [T.get_set, if_neg hne]; exact k1, k2, by show b1 < h.nx + 1; omega⟩
/-- A block is written on under a new name: the old one falls away. -/
theorem HR.rename {b c k : Nat} {o o' : AObj} (hr : HR P w0 r h w) (hb : h.t.get b = some o) (hl : o.live = true) (hrw : o.rw = true) (hc : r.at_ b = some c) (u : Upd c w w')
    (ho' : OR P (r.ext h.nx c k) w'.heap[c]? h.nx o') : HR P w0 (r.ext h.nx c k) ⟨(h.t.set b .dead).set h.nx o', h.nx + 1⟩ w' ∧ r.le (r.ext h.nx c k) := by
  have hle := Ren.ext_le (c := c) (k := k) hr.none_nx
  have hbn : b ≠ h.nx := fun e => by rw [e, hr.none_nx] at hc; cases hc
  obtain ⟨c', hc', _, hge⟩ := hr.ob b o hb hl _ hc
  obtain rfl : c' = c := by rw [hc] at hc'; exact (Option.some.inj hc').symm
  refine ⟨⟨?_, ?_, ?_, fun g hg => (hle g g (hr.glob g hg)).1, hr.below.trans (u.below (hge hrw)), fun b1 o1 hp => ?_⟩, hle⟩
  · intro b1 o1 h1 l1 d1 hd1
    rw [T.get_set, T.get_set] at h1
    by_cases he : b1 = h.nx
    · subst he; simp at h1; subst h1
      exact ⟨_, Ren.ext_at .., ho', fun _ => hge hrw⟩
    · rw [if_neg he] at h1
      by_cases he' : b1 = b
      · subst he'; simp at h1; subst h1; simp [AObj.live] at l1
      · rw [if_neg he'] at h1
        simp [Ren.ext, he] at hd1
        obtain ⟨d, hd, hO, hg⟩ := hr.ob b1 o1 h1 l1 _ hd1
        have hne : d ≠ c' := fun e => he' (hr.inj b1 b o1 o c' h1 l1 hb hl (e ▸ hd) hc)
        exact ⟨d, (hle _ _ hd).1, by rw [u.block d hne]; exact hO.mono hle hd, hg⟩
  · intro b1 b2 o1 o2 d h1 l1 h2 l2 hd1 hd2
    rw [T.get_set, T.get_set] at h1 h2
    by_cases e1 : b1 = h.nx <;> by_cases e2 : b2 = h.nx
    · rw [e1, e2]
    · subst e1
      rw [if_neg e2] at h2
      by_cases e3 : b2 = b
      · subst e3; simp at h2; subst h2; simp [AObj.live] at l2
      · rw [if_neg e3] at h2
        simp [Ren.ext] at hd1; subst hd1
        simp [Ren.ext, e2] at hd2
        exact absurd (hr.inj b2 b o2 o c' h2 l2 hb hl hd2 hc) e3
    · subst e2
      rw [if_neg e1] at h1
      by_cases e3 : b1 = b
      · subst e3; simp at h1; subst h1; simp [AObj.live] at l1
      · rw [if_neg e3] at h1
        simp [Ren.ext] at hd2; subst hd2
        simp [Ren.ext, e1] at hd1
        exact absurd (hr.inj b1 b o1 o c' h1 l1 hb hl hd1 hc) e3
    · rw [if_neg e1] at h1; rw [if_neg e2] at h2
      by_cases e3 : b1 = b
      · subst e3; simp at h1; subst h1; simp [AObj.live] at l1
      · by_cases e4 : b2 = b
        · subst e4; simp at h2; subst h2; simp [AObj.live] at l2
        · rw [if_neg e3] at h1; rw [if_neg e4] at h2
          simp [Ren.ext, e1] at hd1; simp [Ren.ext, e2] at hd2
          exact hr.inj b1 b2 o1 o2 d h1 l1 h2 l2 hd1 hd2
  · intro b hb
    have hb : h.nx + 1 ≤ b := hb
    simp only [Ren.ext]
    rw [if_neg (by omega)]
    exact hr.fresh b (by omega)
  · obtain ⟨k1, k2, k3⟩ := hr.keep b1 o1 hp
    have hne : b1 ≠ h.nx := by omega
    have hne2 : b1 ≠ b := fun e => by subst e; rw [hc] at k2; cases k2
    exact ⟨by rw [T.get_set, if_neg hne, T.get_set, if_neg hne2]; exact k1, by simp [Ren.ext, hne, k2], by show b1 < h.nx + 1; omega⟩
end

-- reading
theorem cellsAt_spec (t : T V) (size : Nat) (z : List V) (off : Nat) : ∀ (n : Nat) (acc l : List V), cellsAt t size z off n acc = some l →
    ∃ m : List V, l = m ++ acc ∧ m.length = n ∧ ∀ (i : Nat) (v : V), m[i]? = some v → cellAt t size z (off + i) = some v
  | 0, acc, l, h => ⟨[], (Option.some.inj h).symm, rfl, by simp⟩
  | n + 1, acc, l, h => by
    have e : cellsAt t size z off (n + 1) acc = match cellAt t size z (Nat.add off n) with
      | some v => cellsAt t size z off n (v :: acc)
      | none => none := rfl
    rw [e] at h
    cases hv : cellAt t size z (Nat.add off n) with
    | none => rw [hv] at h; cases h
    | some v =>
      rw [hv] at h
      obtain ⟨m, h1, h2, h3⟩ := cellsAt_spec t size z off n (v :: acc) l h
      refine ⟨m ++ [v], by simp [h1], by simp [h2], fun i u hu => ?_⟩
      by_cases hi : i < m.length
      · rw [List.getElem?_append_left hi] at hu; exact h3 i u hu
      · rw [List.getElem?_append_right (by omega)] at hu
        by_cases he : i - m.length = 0
        · rw [he] at hu; simp at hu; subst hu
          have : i = n := by omega
          subst this; exact hv
        · obtain ⟨q, hq⟩ : ∃ q, i - m.length = q + 1 := ⟨i - m.length - 1, by omega⟩
          rw [hq] at hu; simp at hu
theorem add_none (c o i : Nat) : Addr.add ⟨c, o, none⟩ i = ⟨c, o + i, none⟩ := by
  unfold Addr.add; split
  · subst_vars; rfl
  · rfl
theorem cell?_of {w : World} {c o : Nat} {cs : Array Value} {e : TypeId} {fz : Nat × Nat} (h : w.heap[c]? = some (.cells cs e fz)) : w.cell? ⟨c, o, none⟩ = cs[o]? := by
  simp [World.cell?, h]
section
variable {P : Program} {w0 : Base} {w w' : World} {r : Ren} {h : H}
theorem HR.cells (hr : HR P w0 r h w) {b c elem size : Nat} {rw opn : Bool} {z : List V} {t : T V} (hb : h.t.get b = some (.cells elem rw opn size z t)) (hc : r.at_ b = some c) :
    ∃ cs fz, w.heap[c]? = some (.cells cs elem fz) ∧ (rw = true → ∀ i, i < cs.size → ¬ (fz.1 ≤ i ∧ i < fz.2)) ∧
      (∀ i v, cellAt t size z i = some v → ∃ x, cs[i]? = some x ∧ VR r v x) ∧ size ≤ cs.size ∧ (opn = true → cs.size = r.cap b * P.cellsOf elem) := by
  obtain ⟨c', hc', hO, _⟩ := hr.ob b _ hb rfl _ hc
  obtain rfl : c' = c := by rw [hc] at hc'; exact (Option.some.inj hc').symm
  exact hO
theorem load1_ok (hr : HR P w0 r h w) {b o c : Nat} {v : V} (hc : r.at_ b = some c) (hl : load1 h b o = some v) : ∃ x, w.cell? ⟨c, o, none⟩ = some x ∧ VR r v x := by
  unfold load1 at hl
  cases hb : h.t.get b with
  | none => rw [hb] at hl; cases hl
  | some ob =>
    rw [hb] at hl
    cases ob with
    | cells elem rw opn size z t =>
      obtain ⟨cs, fz, h0, h1, h2, _⟩ := hr.cells hb hc
      obtain ⟨x, hx, hv⟩ := h2 o v hl
      exact ⟨x, by rw [cell?_of h0]; exact hx, hv⟩
    | _ => cases hl
theorem loadN_take (hr : HR P w0 r h w) {b o c n k : Nat} {l : List V} (hc : r.at_ b = some c) (hl : loadN h b o n = some l) (hk : k ≤ n) :
    ∃ xs : List Value, VRs r (l.take k) xs ∧ l.length = n ∧ ∀ d : World, d.heap = w.heap → (loadCells ⟨c, o, none⟩ k).run P d = .ok xs.toArray d := by
  unfold loadN at hl
  cases hb : h.t.get b with
  | none => rw [hb] at hl; cases hl
  | some ob =>
    rw [hb] at hl
    cases ob with
    | cells elem rw opn size z t =>
      obtain ⟨cs, fz, h0, h1, h2, _⟩ := hr.cells hb hc
      obtain ⟨m, e, hn, hm⟩ := cellsAt_spec t size z o n [] l hl
      simp at e; subst e
      have hx : ∀ j : Nat, j < n → ∃ x, w.cell? ⟨c, o + j, none⟩ = some x ∧ ∃ v, l[j]? = some v ∧ VR r v x := fun j hj => by
        have hj' : j < l.length := by omega
        have e := List.getElem?_eq_getElem hj'
        obtain ⟨x, hx, hv⟩ := h2 _ _ (hm j _ e)
        exact ⟨x, by rw [cell?_of h0]; exact hx, _, e, hv⟩
      let f : Nat → Value := fun j => (w.cell? ⟨c, o + j, none⟩).getD undef
      have hf : ∀ d : World, d.heap = w.heap → ∀ j, j < k → d.cell? (Addr.add ⟨c, o, none⟩ j) = some (f j) := fun d hd j hj => by
        obtain ⟨x, hx, _⟩ := hx j (by omega)
        rw [add_none]
        have e : d.cell? ⟨c, o + j, none⟩ = w.cell? ⟨c, o + j, none⟩ := by simp [World.cell?, hd]
        rw [e]; simp [f, hx]
      refine ⟨(List.range k).map f, VRs.of_get' (by simp [hn]; omega) fun i v u hi hu => ?_, hn, fun d hd => run_loadCells d _ k f (hf d hd)⟩
      have hi' : i < k := by
        have := (List.getElem?_eq_some_iff.1 hu).1
        simpa using this
      obtain ⟨x, hx, v', hv', hvr⟩ := hx i (by omega)
      rw [List.getElem?_take, if_pos hi', hv'] at hi
      cases hi
      simp [hi', f, hx] at hu
      subst hu; exact hvr
    | _ => cases hl
theorem loadN_ok (hr : HR P w0 r h w) {b o c n : Nat} {l : List V} (hc : r.at_ b = some c) (hl : loadN h b o n = some l) :
    ∃ xs : List Value, VRs r l xs ∧ l.length = n ∧ (loadCells ⟨c, o, none⟩ n).run P w = .ok xs.toArray w := by
  obtain ⟨xs, h1, h2, h3⟩ := loadN_take hr hc hl (Nat.le_refl n)
  rw [← h2, List.take_length] at h1
  exact ⟨xs, h1, h2, h3 w rfl⟩
theorem loadN_all (hr : HR P w0 r h w) {b o c n : Nat} {l : List V} (hc : r.at_ b = some c) (hl : loadN h b o n = some l) :
    ∃ xs : List Value, VRs r l xs ∧ l.length = n ∧ ∀ d : World, d.heap = w.heap → (loadCells ⟨c, o, none⟩ n).run P d = .ok xs.toArray d := by
  obtain ⟨xs, h1, h2, h3⟩ := loadN_take hr hc hl (Nat.le_refl n)
  rw [← h2, List.take_length] at h1
  exact ⟨xs, h1, h2, h3⟩
theorem tyI_spec {t n : Nat} {g : Bool} (ht : tyI P t = some (g, n)) : (∀ w, (isAgg t).run P w = .ok g w) ∧ (∀ w, (sizeOf t).run P w = .ok n w) ∧ P.cellsOf t = n := by
  unfold tyI at ht
  cases hd : P.underlying t with
  | none => rw [hd] at ht; cases ht
  | some d =>
    cases hi : P.info? t with
    | none => rw [hd, hi] at ht; cases ht
    | some i =>
      rw [hd, hi] at ht
      simp only [Option.some.injEq, Prod.mk.injEq] at ht
      obtain ⟨hg, hn⟩ := ht
      refine ⟨fun w => ?_, fun w => ?_, ?_⟩
      · simp only [isAgg, Sem.run_bind, run_underlying hd, Result.andThen]
        rw [← hg]
        cases d <;> rfl
      · simp [sizeOf, typeInfo, hi, hn, Result.andThen]
      · simp [Program.cellsOf, hi, hn]
theorem loadT_ok (hr : HR P w0 r h w) {t b o c : Nat} {v : V} (hc : r.at_ b = some c) (hl : loadT P h t b o = some v) :
    ∃ x, VR r v x ∧ (loadVar t ⟨c, o, none⟩).run P w = .ok x w := by
  unfold loadT at hl
  cases ht : tyI P t with
  | none => rw [ht] at hl; cases hl
  | some gn =>
    obtain ⟨g, n⟩ := gn
    rw [ht] at hl
    obtain ⟨h1, h2, _⟩ := tyI_spec ht
    cases g with
    | true =>
      dsimp only at hl
      cases hL : loadN h b o n with
      | none => rw [hL] at hl; cases hl
      | some l =>
        rw [hL] at hl; cases hl
        obtain ⟨xs, hv, _, hrun⟩ := loadN_ok hr hc hL
        exact ⟨.agg ⟨xs⟩, .agg l xs hv, by simp [loadVar, h1, h2, hrun, Result.andThen]⟩
    | false =>
      obtain ⟨x, hx, hv⟩ := load1_ok hr hc hl
      exact ⟨x, hv, by simp [loadVar, h1, hx, Result.andThen]⟩
theorem ones_spec : ∀ {l : List V} {xs : List Value}, ones l = true → VRs r l xs → ∀ x ∈ xs, x.oneCell' = true
  | [], _, _, .nil, x, hx => by cases hx
  | v :: l, _, h1, .cons _ y _ ys hv hl, x, hx => by
    simp only [ones, Bool.and_eq_true] at h1
    rcases List.mem_cons.1 hx with rfl | hx
    · cases hv <;> first | rfl | (simp [V.one] at h1; done)
    · exact ones_spec h1.2 hl x hx
/-- Cells are stored one behind the other. -/
theorem run_storeCells (P : Program) (c o elem : Nat) (fz : Nat × Nat) : ∀ (vs : List Value) (i : Nat) (cs : Array Value) (w : World), w.heap[c]? = some (.cells cs elem fz) → o + i + vs.length ≤ cs.size →
    (∀ k, k < cs.size → ¬ (fz.1 ≤ k ∧ k < fz.2)) → (∀ x ∈ vs, x.oneCell' = true) →
    ∃ cs' w', (storeCells ⟨c, o, none⟩ vs i).run P w = .ok () w' ∧ w'.heap[c]? = some (.cells cs' elem fz) ∧ cs'.size = cs.size ∧ Upd c w w' ∧
      ∀ k, cs'[k]? = if o + i ≤ k ∧ k < o + i + vs.length then vs[k - (o + i)]? else cs[k]?
  | [], i, cs, w, h0, _, _, _ => ⟨cs, w, rfl, h0, rfl, .refl _ _, fun k => by rw [if_neg (by simp <;> omega)]⟩
  | v :: vs, i, cs, w, h0, hlen, hfz, h1 => by
    simp only [List.length_cons] at hlen
    have hcell : w.cell? ⟨c, o + i, none⟩ = some (cs[o + i]'(by omega)) := by rw [cell?_of h0]; exact Array.getElem?_eq_getElem (by omega)
    have hfr : w.frozen? ⟨c, o + i, none⟩ = false := by
      simp only [World.frozen?, h0]
      have := hfz (o + i) (by omega)
      simpa using this
    have hlt : c < w.heap.size := (Array.getElem?_eq_some_iff.1 h0).1
    have hset : (w.setCell ⟨c, o + i, none⟩ v).heap[c]? = some (.cells (cs.setIfInBounds (o + i) v) elem fz) := by
      simp [World.setCell, Array.getElem?_modify, h0]
    obtain ⟨cs', w', hrun, h0', hs', hu, hg⟩ := run_storeCells P c o elem fz vs (i + 1) (cs.setIfInBounds (o + i) v) (w.setCell ⟨c, o + i, none⟩ v) hset (by simp; omega) (by simpa using hfz) (fun x hx => h1 x (List.mem_cons_of_mem _ hx))
    refine ⟨cs', w', ?_, h0', by simpa using hs', Upd.trans (b := w.setCell ⟨c, o + i, none⟩ v) ⟨rfl, rfl, rfl, by simp [World.setCell], fun k hk => Below.heap_setCell w _ v k hk⟩ hu, fun k => ?_⟩
    · unfold storeCells
      simp only [Sem.run_bind, add_none, run_store P w _ v .plain (h1 v (List.mem_cons_self ..)), hcell, hfr, Bool.false_eq_true, if_false, Result.andThen]
      exact hrun
    · rw [hg k, List.length_cons]
      by_cases hk : o + (i + 1) ≤ k ∧ k < o + (i + 1) + vs.length
      · rw [if_pos hk, if_pos (by omega)]
        obtain ⟨q, hq⟩ : ∃ q, k - (o + i) = q + 1 := ⟨k - (o + i) - 1, by omega⟩
        rw [hq, List.getElem?_cons_succ]; congr 1; omega
      · rw [if_neg hk]
        by_cases he : k = o + i
        · subst he; rw [if_pos (by omega)]; simp [show o + i < cs.size by omega]
        · rw [if_neg (by omega), Array.getElem?_setIfInBounds_ne (Ne.symm he)]
theorem cellAt_set {t : T V} {size : Nat} {z : List V} {i j : Nat} {v : V} : cellAt (t.set i v) size z j = if j = i then some v else cellAt t size z j := by
  unfold cellAt; rw [T.get_set]; by_cases hj : j = i <;> simp [hj]
theorem cellAt_sets {t : T V} {size : Nat} {z : List V} (vs : List V) (i j : Nat) : cellAt (sets vs t i) size z j = if i ≤ j ∧ j < i + vs.length then vs[j - i]? else cellAt t size z j := by
  unfold cellAt
  rw [get_sets]
  by_cases hc : i ≤ j ∧ j < i + vs.length
  · rw [if_pos hc, if_pos hc]
    have : j - i < vs.length := by omega
    rw [List.getElem?_eq_getElem this]
  · rw [if_neg hc, if_neg hc]
theorem storeK_ok {β : Type} (hr : HR P w0 r h w) {b o c : Nat} {vs : List V} {xs : List Value} {k : H → Option β} {res : β} (hc : r.at_ b = some c) (hv : VRs r vs xs)
    (hk : storeK h b o vs none k = some res) : ∃ h' w', HR P w0 r h' w' ∧ (storeCells ⟨c, o, none⟩ xs).run P w = .ok () w' ∧ k h' = some res ∧ Upd c w w' ∧ h'.nx = h.nx := by
  unfold storeK at hk
  cases hb : h.t.get b with
  | none => rw [hb] at hk; cases hk
  | some ob =>
    rw [hb] at hk
    cases ob with
    | cells elem rw opn size z t =>
      cases rw with
      | false => cases hk
      | true =>
        dsimp only at hk
        cases hs : (Nat.ble (Nat.add o vs.length) size && ones vs) with
        | false => rw [hs] at hk; cases hk
        | true =>
          rw [hs] at hk
          simp only [Bool.and_eq_true] at hs
          have hle : o + vs.length ≤ size := Nat.le_of_ble_eq_true hs.1
          dsimp only at hk
          rw [setsK_eq, T.setK_eq] at hk
          obtain ⟨cs, fz, h0, h1, h2, h3, h4⟩ := hr.cells hb hc
          have hl := hv.length
          obtain ⟨cs', w', hrun, h0', hs', hu, hg⟩ := run_storeCells P c o elem fz xs 0 cs w h0 (by omega) (h1 rfl) (ones_spec hs.2 hv)
          refine ⟨_, w', hr.upd (o' := .cells elem true opn size z (sets vs t o)) hb rfl rfl hc hu fun _ => ⟨cs', fz, h0', fun _ => by rw [hs']; exact h1 rfl, ?_, by rw [hs']; exact h3, fun ho => by rw [hs']; exact h4 ho⟩, hrun, hk, hu, rfl⟩
          intro i v hi
          rw [cellAt_sets] at hi
          rw [hg i]
          by_cases hi' : o ≤ i ∧ i < o + vs.length
          · rw [if_pos hi'] at hi
            obtain ⟨x, hx, hvr⟩ := hv.get hi
            exact ⟨x, by rw [if_pos (by omega)]; exact hx, hvr⟩
          · rw [if_neg hi'] at hi
            obtain ⟨x, hx, hvr⟩ := h2 i v hi
            exact ⟨x, by rw [if_neg (by omega)]; exact hx, hvr⟩
    | _ => cases hk
theorem cellAt_new (vs : List V) {n i : Nat} {v : V} (h : cellAt (sets vs T.e 0) n [] i = some v) : vs[i]? = some v := by
  rw [cellAt_sets] at h
  by_cases hc : 0 ≤ i ∧ i < 0 + vs.length
  · rw [if_pos hc] at h; simpa using h
  · rw [if_neg hc] at h
    unfold cellAt at h
    rw [T.get_e] at h
    dsimp only at h
    split at h
    · cases h
    · cases h
/-- A new row of cells. -/
theorem newK_ok {β : Type} (hr : HR P w0 r h w) {elem : Nat} {opn : Bool} {vs : List V} {cs : List Value} {xs : Array Value} {kcap : Nat} {fz : Nat × Nat} {k : Nat → H → β} {res : β}
    (hv : VRs r vs cs) (hp : ∀ (i : Nat) (x : Value), cs[i]? = some x → xs[i]? = some x) (hsz : vs.length ≤ xs.size) (hf : ∀ i, i < xs.size → ¬ (fz.1 ≤ i ∧ i < fz.2)) (ho : opn = true → xs.size = kcap * P.cellsOf elem)
    (hk : newK h elem opn vs k = res) : ∃ h' r', HR P w0 r' h' (w.alloc (.cells xs elem fz)) ∧ r.le r' ∧ r'.at_ h.nx = some w.heap.size ∧ r'.cap h.nx = kcap ∧ k h.nx h' = res := by
  unfold newK at hk
  rw [setsK_eq, natK_eq, natK_eq, T.setK_eq] at hk
  obtain ⟨h1, h2⟩ := hr.new (.cells xs elem fz) (.cells elem true opn vs.length [] (sets vs T.e 0)) kcap ⟨xs, fz, rfl, fun _ => hf, fun i v hi => by
      obtain ⟨x, hx, hvr⟩ := hv.get (cellAt_new vs hi)
      exact ⟨x, hp i x hx, hvr.mono (Ren.ext_le hr.none_nx)⟩, hsz, fun h => by rw [Ren.ext_cap]; exact ho h⟩
  exact ⟨_, _, h1, h2, Ren.ext_at .., Ren.ext_cap .., hk⟩
theorem newObjK_ok {β : Type} (hr : HR P w0 r h w) {o : Obj} {ao : AObj} {k : Nat → H → β} {res : β} (ho : OR P (r.ext h.nx w.heap.size 0) (some o) h.nx ao) (hk : newObjK h ao k = res) :
    ∃ h' r', HR P w0 r' h' (w.alloc o) ∧ r.le r' ∧ r'.at_ h.nx = some w.heap.size ∧ k h.nx h' = res := by
  unfold newObjK at hk
  rw [natK_eq, T.setK_eq] at hk
  obtain ⟨h1, h2⟩ := hr.new o ao 0 ho
  exact ⟨_, _, h1, h2, Ren.ext_at .., hk⟩
end
end
end Go.Ev
