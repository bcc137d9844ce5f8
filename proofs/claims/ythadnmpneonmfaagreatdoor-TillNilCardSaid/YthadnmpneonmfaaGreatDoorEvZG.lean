/- The step machine: a run in pieces, and what a call does. -/
import Derived.Test.YthadnmpneonmfaaGreatDoorEvZF
namespace Go.Ev
open Go Go.RowKit
noncomputable section
/-- Of a trie: the listed ones. -/
def keepK {α β : Type} (t : T α) (l : List Nat) : T α → (T α → β) → β :=
  List.rec (motive := fun _ => T α → (T α → β) → β) (fun acc k => k acc) (fun b _ ih acc k => Option.rec (motive := fun _ => β) (ih acc k) (fun o => T.setK o acc b fun acc => ih acc k) (t.get b)) l
/-- Some blocks and some of the top frame's values are forgotten. -/
def cutS (kb kt : List Nat) (s : S) : Option S :=
  match s with
  | ⟨⟨fn, n, tm, todo, dfs, ret, dk, rnd⟩, rest, ⟨t, nx⟩⟩ => match todo with
    | .dreg _ _ :: _ => none
    | td => keepK tm kt .e fun tm => keepK t kb .e fun t => some ⟨⟨fn, n, tm, td, dfs, ret, dk, rnd⟩, rest, ⟨t, nx⟩⟩
/-- A piece of a run. -/
def piece (P : Program) (k : Nat) (kb kt : List Nat) (s : S) : Option S :=
  match arun P k s with
  | some s => cutS kb kt s
  | none => none
-- to write states down
def cdAt (l : List Nat) : Code → Code :=
  List.rec (motive := fun _ => Code → Code) (fun c => c) (fun i _ ih c => match c with
    | .seq a b => match i with | 0 => ih a | _ => ih b
    | .cond _ a b => match i with | 0 => ih a | _ => ih b
    | .block _ b => ih b
    | .loop b => ih b
    | .scope b => ih b
    | .rangeFunc _ _ a b => match i with | 0 => ih a | _ => ih b
    | c => c) l
def bodyOf (P : Program) (f : Nat) : Code := match fnI P f with | some (_, c) => c | none => .skip
def opsAt (P : Program) (f : Nat) (l : List Nat) : Array Oper := match cdAt l (bodyOf P f) with | .region _ ops _ => ops | _ => #[]
def restAt (P : Program) (f : Nat) (l : List Nat) (j : Nat) : List Oper := (opsAt P f l).toList.drop j
def planAt (P : Program) (f : Nat) (l : List Nat) (j : Nat) : List PS := match planOf P (opsAt P f l) with | some p => p.drop j | none => []
def layT {α : Type} (l : List (Nat × α)) : T α := l.foldl (fun t p => T.setK p.2 t p.1 id) .e
def rowT (l : List V) : T V := setsK l .e 0 id
def bys (l : List Nat) : List V := l.map fun n => .int .u8 (.ofNat n)
section
variable {α : Type}
theorem keepK_eq {β : Type} (t : T α) : ∀ (l : List Nat) (acc : T α) (k : T α → β), ∃ u, keepK t l acc k = k u ∧ ∀ b o, u.get b = some o → t.get b = some o ∨ acc.get b = some o
  | [], acc, k => ⟨acc, rfl, fun b o h => .inr h⟩
  | b :: l, acc, k => by
    have e : keepK t (b :: l) acc k = Option.rec (motive := fun _ => β) (keepK t l acc k) (fun o => T.setK o acc b fun acc => keepK t l acc k) (t.get b) := rfl
    rw [e]
    cases hb : t.get b with
    | none => exact keepK_eq t l acc k
    | some o =>
      dsimp only
      rw [T.setK_eq]
      obtain ⟨u, h1, h2⟩ := keepK_eq t l (acc.set b o) k
      refine ⟨u, h1, fun c x hx => ?_⟩
      rcases h2 c x hx with h | h
      · exact .inl h
      · rw [T.get_set] at h
        split at h
        · rename_i hc; subst hc; cases h; exact .inl hb
        · exact .inr h
end
section
variable {P : Program} {w0 : Base} {w : World} {r : Ren} {tail : List Frame}
theorem HR.sub {h : H} {t : T AObj} (hr : HR P w0 r h w) (hs : ∀ b o, t.get b = some o → h.t.get b = some o) : HR P w0 r ⟨t, h.nx⟩ w :=
  ⟨fun b o hb hl d hd => hr.ob b o (hs b o hb) hl d hd, fun b b' o o' c hb hl hb' hl' => hr.inj b b' o o' c (hs b o hb) hl (hs b' o' hb') hl', hr.fresh, hr.glob, hr.below, fun b e h => ⟨fun o ho => (hr.keep b e h).1 o (hs b o ho), (hr.keep b e h).2⟩⟩
theorem TR.sub {tm tm' : T V} {n : Nat} {tmps : Array Value} (ht : TR r tm n tmps) (hs : ∀ b o, tm'.get b = some o → tm.get b = some o) : TR r tm' n tmps :=
  ⟨ht.size, fun t v hv => ht.at_ t v (hs t v hv)⟩
theorem Rep.cut {s s1 : S} {f : Frame} {cs : List Frame} {kb kt : List Nat} (hs : Rep P w0 tail s f cs w r) (hk : cutS kb kt s = some s1) : Rep P w0 tail s1 f cs w r := by
  obtain ⟨⟨fn, n, tm, todo, dfs, ret, dk, rnd⟩, rest, ⟨t, nx⟩⟩ := s
  obtain ⟨hr, htop, hre⟩ := hs
  unfold cutS at hk
  dsimp only at hk htop hr hre
  split at hk
  · cases hk
  · rename_i _ hno
    obtain ⟨tm', e1, h1⟩ := keepK_eq tm kt .e fun tm => keepK t kb .e fun t => some (⟨⟨fn, n, tm, todo, dfs, ret, dk, rnd⟩, rest, ⟨t, nx⟩⟩ : S)
    rw [e1] at hk
    obtain ⟨t', e2, h2⟩ := keepK_eq t kb .e fun t => some (⟨⟨fn, n, tm', todo, dfs, ret, dk, rnd⟩, rest, ⟨t, nx⟩⟩ : S)
    rw [e2] at hk
    cases hk
    have g1 : ∀ b o, tm'.get b = some o → tm.get b = some o := fun b o hb => by
      rcases h1 b o hb with h | h
      · exact h
      · rw [T.get_e] at h; cases h
    have g2 : ∀ b o, t'.get b = some o → t.get b = some o := fun b o hb => by
      rcases h2 b o hb with h | h
      · exact h
      · rw [T.get_e] at h; cases h
    refine ⟨HR.sub hr g2, ?_, hre⟩
    cases htop with
    | plain fb tr it =>
      obtain ⟨b1, b2, b3, b4, b5⟩ := fb
      exact .plain ⟨b1, b2, b3, b4, b5⟩ (tr.sub g1) it
    | drawn fb hrun ops plan td' ex pot L l k ha => exact absurd ha (fun e => hno _ _ _ e)
/-- A run begins: nothing is to come. -/
abbrev base (w : World) : Base := ⟨w, fun _ => none⟩
theorem To.piece {w0 : World} {f : Frame} {cs : List Frame} {s s1 : S} {k : Nat} {kb kt : List Nat} (ht : To P w0 tail f cs w s) (hk : piece P k kb kt s = some s1) : To P w0 tail f cs w s1 := by
  unfold Ev.piece at hk
  split at hk
  · rename_i s2 h2
    obtain ⟨pd, r, f', cs', w', h3, h4⟩ := arun_ok k ht h2
    exact ⟨pd, r, f', cs', w', h3, h4.cut hk⟩
  · cases hk
theorem To.begin {f : Nat} {args : List V} {xs : List Value} {h : H} {s : S} (hr : HR P (base w) r h w) (hv : VRs r args xs) (hk : callK P f args false [] h = some s) : To P w tail (Frame.enter P f ⟨xs⟩ .normal) tail w s :=
  ⟨(base w).pend, r, _, _, w, Steps.refl _ _, (callK_ok (tail := tail) (dk := false) hr hv .nil hk).2⟩
/-- What the step machine's result says of the call. -/
theorem calls_of {f : Nat} {xs : List Value} {v : V} (ht : ∀ tail, ∃ s, To P w tail (Frame.enter P f ⟨xs⟩ .normal) tail w s ∧ s.top.ret = true ∧ s.top.dfs = [] ∧ s.rest = [] ∧ s.top.dk = false ∧ s.top.fn = f ∧ results P f s.top.tm s.h = some v) :
    Calls P f ⟨xs⟩ w fun e w' => ∃ r x, e = .returned x ∧ VR r v x ∧ Below w.heap.size w w' := by
  intro cs
  obtain ⟨s, ⟨pd, r, f', cs', w', hsteps, hr, htop, ca, rfl, hre⟩, h1, h2, h3, h4, h5, h6⟩ := ht cs
  rw [h3] at hre
  cases hre
  obtain ⟨tmps, k, ds, rn, rfl, hd, hrn, tr, it⟩ := htop.ret_of h1
  rw [h2] at hd
  cases hd
  obtain ⟨fn, x, hF, hv, hrun⟩ := results_ok hr tr h6
  rw [h5, h4] at *
  exact ⟨.returned x, w', _, ⟨r, x, rfl, hv, hr.below⟩, hsteps, rfl, rfl, rfl, rfl, fn, hF, hrun⟩
end
end
end Go.Ev
