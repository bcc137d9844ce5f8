/- A region that draws its order, in a round of a range over a function: what is shown of it outside serves there. -/
import Derived.Test.YtnaapkoladiomaaGreatDoorBase
import Derived.RangeFuncNested
import Derived.RangeFuncFrom
import Derived.RangeFuncLeaves
import Derived.RangeFuncCalls
import Derived.OrdersIn
import Derived.OrdersHeld
import Derived.Deep.AppendLies
namespace Go.Proofs.YtnaapkoladiomaaGreatDoor.B
open Go.RowKit

theorem rows_in {P : Program} {n : Nat} {row : String} {args : Array Value} {w : World} {R : Value → World → Prop} (h : Rows P row args w R) : RowsIn Fence.wide n P row args w R := by
  intro c cs _
  obtain ⟨v, w', hR, hs⟩ := h c cs
  exact ⟨v, w', hR, stepsIn_wide.2 hs⟩

theorem lift_op {P : Program} {l n : Nat} {o : Oper} {a : Act} {w : World} {K : Act → World → Prop} {Q : Exit → Act → World → Prop} (hd : ∀ c, o.op ≠ .defer c) (h : o.wp P a w K Q) : o.wpIn (Fence.wide.inRound l) n P a w K Q := by
  refine ⟨fun _ _ => trivial, ?_⟩
  rw [Oper.semAt_eq _ _ _ hd]
  unfold Oper.wp at h
  generalize (execOp a.eval o).run P w = r at h ⊢
  cases r with
  | ok x w' =>
    cases x with
    | enter f args => exact ⟨fun e => (by cases e), CallsIn.inRound l (callsIn_wide.2 h)⟩
    | row s args => exact ⟨fun e => (by cases e), rows_in h⟩
    | round => exact (h : False).elim
    | _ => exact h
  | halt e w' => cases e <;> exact h

theorem lift_any {P : Program} {l n : Nat} {md : Region.Mode} {ops : Array Oper} {Q : Exit → Act → World → Prop} (hd : ∀ (i : Nat) (o : Oper) c, ops[i]? = some o → o.op ≠ .defer c) (hL : ¬ LetsOut Q) :
    ∀ (fuel : Nat) (listed : Array Bool) (a : Act) (w : World), wpAny P md ops Q fuel listed a w → wpAnyIn (Fence.wide.inRound l) n P md ops Q fuel listed a w
  | 0, _, _, _, h => h
  | fuel + 1, listed, a, w, h => ⟨h.1, fun i hi => by
      have h2 := h.2 i hi
      unfold wpOp at h2
      unfold wpOpIn
      cases ho : ops[i]? with
      | none =>
        rw [ho] at h2
        exact lift_any hd hL fuel _ _ _ h2
      | some o =>
        rw [ho] at h2
        simp only at h2 ⊢
        split at h2
        · rename_i hw
          rw [if_pos hw]
          rcases h2 with h2 | ⟨_, h2⟩
          · exact Oper.wpIn_mono (fun a w hK => lift_any hd hL fuel _ a w hK) (lift_op (fun c => hd i o c ho) h2)
          · exact absurd h2 hL
        · rename_i hw
          rw [if_neg hw]
          exact ⟨fun _ _ => trivial, lift_any hd hL fuel _ _ _ h2⟩⟩

/-- A loop over a function with one variable, whose body never leaves. -/
theorem range_one {P : Program} {N : Nat} {α : Type} {gop : Operand} {p d : Nat} {assign body : Code} {Q : Exit → Act → World → Prop} {a : Act} {w : World} {gf : Nat} {lb : Array Value} (pv : α → Value)
    {Kp : World → World → Prop} {S Sp : List α → Prop} (hg : a.eval gop = .func (.func gf) #[] lb) (eg : ∀ args w, (callFunc gf args).run P w = .ok (.enter gf args) w)
    (hseq : SeqStopsK Fence.wide 4 P gf lb (fun x => #[pv x]) Kp S Sp N w) (hKt : ∀ {A B C : World}, Kp A B → Kp B C → Kp A C)
    (hKb : ∀ (W : World) (l : Nat) (o o' : Obj), w.heap.size ≤ l → W.heap[l]? = some o → o.isCells = false → o.isWalk = false → Kp W (W.putObj l o'))
    (I : List α → World → Prop) (hI : OwnFrom w.heap.size I) (h0 : I [] w)
    (hassign : ∀ (l : Nat) (v : Value) (W : World) (K : Act → World → Prop), K { tmps := (a.tmps.setIfInBounds p v).setIfInBounds d v, defers := [] } W → assign.wpIn (Fence.wide.inRound l) 3 P (Exit.then K (fun _ _ _ => False)) { tmps := a.tmps.setIfInBounds p v, defers := [] } W)
    (hbody : ∀ (l : Nat) (pre : List α) (x : α) (W : World), I pre W → pre.length < N → body.wpIn (Fence.wide.inRound l) 3 P (ownPostK Kp I (fun _ _ _ => False) (pre ++ [x]) W) { tmps := (a.tmps.setIfInBounds p (pv x)).setIfInBounds d (pv x), defers := [] } W)
    (hdone : ∀ (D : Nat) (xs : List α) (W : World), w.heap.size ≤ D → S xs → I xs W → W.heap[D]? = some (.deferred (some [])) → Q .normal { a with defers := { target := .collected D, args := #[] } :: a.defers } W) :
    (Code.rangeFunc gop #[p] assign body).wp P Q a w := by
  refine (wpIn_wide (n := 5)).1 (wpIn_rangeFunc_ownF rfl (by omega) hg trivial eg hseq hKt hKb (Below.refl _ _) (fun _ => rfl) I (fun _ _ _ => False) hI (fun _ _ _ _ _ h => h.elim) h0 (fun x => { tmps := (a.tmps.setIfInBounds p (pv x)).setIfInBounds d (pv x), defers := [] }) ?_ hbody hdone (fun _ _ _ _ _ _ h _ => h.elim))
  intro l x W K hK
  have e : (#[p].zip #[pv x]).foldl (fun (t : Array Value) (q : Nat × Value) => t.setIfInBounds q.1 q.2) a.tmps = a.tmps.setIfInBounds p (pv x) := by simp
  have := hassign l (pv x) W K hK
  rw [← e] at this
  exact this

/-- A step of code is shown of whatever frame has what is read. -/
theorem act_gen {P : Program} {F : Fence} {n : Nat} {c : Code} {Q : Exit → Act → World → Prop} {a : Act} {w : World} (R : Act → Prop) (hR : R a) (h : ∀ a', R a' → c.wpIn F n P Q a' w) : c.wpIn F n P Q a w := h a hR

theorem tget_same (a : Act) (d : Nat) (v : Value) (h : d < a.tmps.size) : (a.put (some d) v).tmps[d]?.getD undef = v := by
  simp [Act.put, h]
theorem tget_ne (a : Act) (d j : Nat) (v : Value) (h : d ≠ j) : (a.put (some d) v).tmps[j]?.getD undef = a.tmps[j]?.getD undef := by
  simp only [Act.put]
  rw [Array.getElem?_setIfInBounds_ne h]
theorem eval_of {a : Act} {k : Nat} {v : Value} (h : a.tmps[k]?.getD undef = v) : a.eval (.tmp k) = v := by
  simp only [Act.eval, Array.getD_eq_getD_getElem?]
  exact h
section
variable {P : Program} {md : Region.Mode} {ops : Array Oper} {Q : Exit → Act → World → Prop} {S : World → Prop} {fuel : Nat} {listed : Array Bool} {a : Act} {w : World}
/-- An operation is taken first; behind it the frame is a letter, of which R is known. -/
theorem take_mv {i d : Nat} {oi : Oper} {v : Value} (hi : ops[i]? = some oi) (hd : oi.dst = some d) (hs : Region.noSelect ops = true) (hf : Region.free md ops listed i = true) (hr : (Region.ready md ops listed).contains i = true)
    (hQ : ∀ c a w, Q (.panic c) (a.put oi.dst v) w → Q (.panic c) a w) (hw : Region.wanted oi (yielded ops a.tmps) = true) (hy : ∀ w, S w → (execOp a.eval oi).run P w = .ok (.value v) w) (hS : S w)
    (R : Act → Prop) (hR : R (a.put (some d) v)) (h : ∀ A, R A → wpAnyH P md ops Q S fuel (listed.setIfInBounds i true) A w) : wpAnyH P md ops Q S (fuel + 1) listed a w :=
  wpAnyH_take hi hs hf hr hQ (Or.inl ⟨hw, hy⟩) hS (by rw [hd]; exact h _ hR)
/-- What may come up comes up. -/
def Comes1 (P : Program) (md : Region.Mode) (ops : Array Oper) (Q : Exit → Act → World → Prop) (S : World → Prop) (fuel : Nat) (listed : Array Bool) (a : Act) (w : World) (i : Nat) : Prop :=
  wpOp P ops Q i (fun a' w' => S w' ∧ wpAnyH P md ops Q S fuel (listed.setIfInBounds i true) a' w') a w
theorem comes1 {i : Nat} (hr : Region.ready md ops listed = [i]) (h : Comes1 P md ops Q S fuel listed a w i) : wpAnyH P md ops Q S (fuel + 1) listed a w :=
  wpAnyH_all hr (by simp) (fun j hj => by simp at hj; subst hj; exact h)
theorem comes2 {i j : Nat} (hr : Region.ready md ops listed = [i, j]) (h1 : Comes1 P md ops Q S fuel listed a w i) (h2 : Comes1 P md ops Q S fuel listed a w j) : wpAnyH P md ops Q S (fuel + 1) listed a w :=
  wpAnyH_all hr (by simp) (fun k hk => by
    simp only [List.mem_cons, List.not_mem_nil, or_false] at hk
    rcases hk with rfl | rfl
    · exact h1
    · exact h2)
theorem comes3 {i j k : Nat} (hr : Region.ready md ops listed = [i, j, k]) (h1 : Comes1 P md ops Q S fuel listed a w i) (h2 : Comes1 P md ops Q S fuel listed a w j) (h3 : Comes1 P md ops Q S fuel listed a w k) : wpAnyH P md ops Q S (fuel + 1) listed a w :=
  wpAnyH_all hr (by simp) (fun m hm => by
    simp only [List.mem_cons, List.not_mem_nil, or_false] at hm
    rcases hm with rfl | rfl | rfl
    · exact h1
    · exact h2
    · exact h3)
theorem br_value {i d : Nat} {oi : Oper} {v : Value} {w' : World} (hi : ops[i]? = some oi) (hd : oi.dst = some d) (hw : Region.wanted oi (yielded ops a.tmps) = true) (hrun : (execOp a.eval oi).run P w = .ok (.value v) w') (hS : S w')
    (R : Act → Prop) (hR : R (a.put (some d) v)) (h : ∀ A, R A → wpAnyH P md ops Q S fuel (listed.setIfInBounds i true) A w') : Comes1 P md ops Q S fuel listed a w i := by
  unfold Comes1 wpOp
  simp only [hi]
  rw [if_pos hw]
  left
  unfold Oper.wp
  rw [hrun]
  exact ⟨hS, by rw [hd]; exact h _ hR⟩
theorem br_skip {i : Nat} {oi : Oper} {w' : World} (hi : ops[i]? = some oi) (hw : Region.wanted oi (yielded ops a.tmps) = true) (hrun : (execOp a.eval oi).run P w = .ok .skip w') (hS : S w')
    (h : ∀ A, wpAnyH P md ops Q S fuel (listed.setIfInBounds i true) A w') : Comes1 P md ops Q S fuel listed a w i := by
  unfold Comes1 wpOp
  simp only [hi]
  rw [if_pos hw]
  left
  unfold Oper.wp
  rw [hrun]
  exact ⟨hS, h _⟩
theorem br_call {i d : Nat} {oi : Oper} {f : FuncId} {args : Array Value} (hi : ops[i]? = some oi) (hd : oi.dst = some d) (hw : Region.wanted oi (yielded ops a.tmps) = true) (hrun : (execOp a.eval oi).run P w = .ok (.enter f args) w)
    (hc : Calls P f args w fun e w' => ∃ v, e = .returned v ∧ S w' ∧ wpAnyH P md ops Q S fuel (listed.setIfInBounds i true) (a.put (some d) v) w') : Comes1 P md ops Q S fuel listed a w i := by
  unfold Comes1 wpOp
  simp only [hi]
  rw [if_pos hw]
  left
  unfold Oper.wp
  rw [hrun]
  refine Calls.mono hc ?_
  rintro e w' ⟨v, rfl, h1, h2⟩
  exact ⟨h1, by rw [hd]; exact h2⟩
theorem with_tail (f : Nat) (l : Array Bool) (F : Act → World → Prop) {f0 : Nat} {l0 : Array Bool} (ht : ∀ A V, F A V → wpAnyH P md ops Q S f l A V) (hg : (∀ A V, F A V → wpAnyH P md ops Q S f l A V) → wpAnyH P md ops Q S f0 l0 a w) : wpAnyH P md ops Q S f0 l0 a w := hg ht
theorem br_append {i d : Nat} {oi : Oper} (hi : ops[i]? = some oi) (hd : oi.dst = some d) (hgd : oi.guard = none) (s x : Operand) (t : TypeId)
    (ho : oi.op = .call { callee := .builtin .append, args := #[s, x], argTypes := #[t, t] })
    (base : Nat) (e : TypeId) (ti : TypeInfo) (z : Value) (size bytes : Nat) (ht : P.underlying t = some (.slice e)) (hti : P.info? e = some ti) (hz : ti.zero = some z)
    (hsize : ti.size = size) (hby : ti.bytes = bytes) (hzs : z.cells.size = size) (hsz : 0 < size)
    (v : Value) (n : Nat) (xs : List Value) (hs : a.eval s = v) (hown : w.ownsRow base e size v n xs)
    (ad : Addr) (m c : Nat) (news : List Value) (hx : a.eval x = .slice (some ad) m c) (hl : news.length = m * size) (hnews : ∀ j u, news[j]? = some u → w.cell? (ad.add j) = some u) (h1 : ∀ u ∈ news, u.oneCell' = true)
    (hm : 0 < m) (h63 : n + m ≤ maxLen) (hbytes : (n + m) * bytes ≤ 140737488355328) (hbase : base ≤ w.heap.size)
    (h : ∀ g cap w', w'.ownsRow base e size (.slice (some ⟨g, 0, none⟩) (n + m) cap) (n + m) (xs ++ news) → w.grownBy w' v.ownBlock → (v.ownBlock = some g ∨ g = w.heap.size) → g < w'.heap.size → S w' ∧ wpAnyH P md ops Q S fuel (listed.setIfInBounds i true) (a.put (some d) (.slice (some ⟨g, 0, none⟩) (n + m) cap)) w') : Comes1 P md ops Q S fuel listed a w i := by
  unfold Comes1 wpOp
  simp only [hi]
  rw [if_pos (by simp [Region.wanted, hgd])]
  left
  refine wp_append_lies w s x t ho base e ti z size bytes ht hti hz hsize hby hzs hsz v n xs hs hown ad m c news hx hl hnews h1 hm h63 hbytes hbase w.heap.size rfl ?_
  intro g cap w' h2 h3 h4 h5
  rw [hd]
  exact h g cap w' h2 h3 h4 h5
end
end Go.Proofs.YtnaapkoladiomaaGreatDoor.B
