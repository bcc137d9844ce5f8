/- The step machine: regions that draw their order: what a plan says. -/
import Derived.Test.YthadnmpneonmfaaGreatDoorEvB
namespace Go.Ev
open Go Go.RowKit
noncomputable section

/-- One operation stands ahead of another in every order. -/
inductive Dep (ops : Array Oper) : Nat → Nat → Prop
  | edge (i : Nat) (o : Oper) (e : Edge) (ho : ops[i]? = some o) (he : e ∈ o.after.toList) (hb : Region.binds .any e = true) : Dep ops e.on i
  | trans (j : Nat) (i : Nat) (o : Oper) (e : Edge) (h : Dep ops j e.on) (ho : ops[i]? = some o) (he : e ∈ o.after.toList) (hb : Region.binds .any e = true) : Dep ops j i
def Back (ops : Array Oper) : Prop := ∀ i o, ops[i]? = some o → ∀ e ∈ o.after.toList, Region.binds .any e = true → e.on < i
theorem memN_ok {a : Nat} {l : List Nat} : memN a l = true ↔ a ∈ l := by
  unfold memN
  rw [List.any_eq_true]
  exact ⟨fun ⟨b, hb, h⟩ => by rw [Nat.eq_of_beq_eq_true h]; exact hb, fun h => ⟨a, h, Nat.beq_refl a⟩⟩
theorem bit_one {k j : Nat} (h : (Nat.shiftLeft 1 k).testBit j = true) : j = k := by
  have e : Nat.shiftLeft 1 k = 2 ^ k := Nat.one_shiftLeft k
  rw [e, Nat.testBit_two_pow] at h
  exact (by simpa using h : k = j).symm
theorem bit_or {a b j : Nat} (h : (Nat.lor a b).testBit j = true) : a.testBit j = true ∨ b.testBit j = true := by
  have e : Nat.lor a b = a ||| b := rfl
  rw [e, Nat.testBit_or, Bool.or_eq_true] at h
  exact h
theorem edgeBits_ok {tr : List Nat} {n : Nat} : ∀ {l : List Edge} {s : Nat}, edgeBits tr n l = some s → (∀ e ∈ l, Region.binds .any e = true → e.on < n) ∧
    ∀ j, s.testBit j = true → ∃ e ∈ l, Region.binds .any e = true ∧ (e.on = j ∨ ∃ t, tr[e.on]? = some t ∧ t.testBit j = true)
  | [], s, h => by cases h; exact ⟨by simp, fun j hj => by simp at hj⟩
  | e :: l, s, h => by
    simp only [edgeBits] at h
    split at h
    · rename_i hb
      obtain ⟨h1, h2⟩ := edgeBits_ok h
      refine ⟨fun e' he' hb' => ?_, fun j hj => ?_⟩
      · rcases List.mem_cons.1 he' with rfl | he'
        · rw [hb] at hb'; cases hb'
        · exact h1 e' he' hb'
      · obtain ⟨e', he', hh⟩ := h2 j hj
        exact ⟨e', List.mem_cons_of_mem _ he', hh⟩
    · rename_i hb
      split at h
      · cases h
      rename_i hlt
      split at h
      · cases h
      rename_i t ht
      split at h
      · cases h
      rename_i s' hs'
      cases h
      obtain ⟨h1, h2⟩ := edgeBits_ok hs'
      refine ⟨fun e' he' hb' => ?_, fun j hj => ?_⟩
      · rcases List.mem_cons.1 he' with rfl | he'
        · exact Nat.le_of_ble_eq_true hlt
        · exact h1 e' he' hb'
      · rcases bit_or hj with hj | hj
        · obtain ⟨e', he', hh⟩ := h2 j hj
          exact ⟨e', List.mem_cons_of_mem _ he', hh⟩
        · refine ⟨e, List.mem_cons_self .., hb, ?_⟩
          rcases bit_or hj with hj | hj
          · exact .inl (bit_one hj).symm
          · exact .inr ⟨t, ht, hj⟩
theorem trOf_ok {ops : Array Oper} : ∀ {l : List Oper} {tr tr' : List Nat} {n : Nat} (pre : List Oper), ops.toList = pre ++ l → pre.length = n → tr.length = n →
    (∀ i t, tr[i]? = some t → ∀ j, t.testBit j = true → Dep ops j i) → (∀ i o, i < n → ops[i]? = some o → ∀ e ∈ o.after.toList, Region.binds .any e = true → e.on < i) → trOf l tr n = some tr' →
    (∀ i t, tr'[i]? = some t → ∀ j, t.testBit j = true → Dep ops j i) ∧ Back ops
  | [], tr, tr', n, pre, hp, hn, ht, h1, h2, h => by
    cases h
    refine ⟨h1, fun i o ho => h2 i o ?_ ho⟩
    have := (Array.getElem?_eq_some_iff.1 ho).1
    rw [← Array.length_toList, hp] at this
    simp at this; omega
  | o :: l, tr, tr', n, pre, hp, hn, ht, h1, h2, h => by
    simp only [trOf] at h
    split at h
    · cases h
    rename_i s hs
    obtain ⟨g1, g2⟩ := edgeBits_ok hs
    have ho : ops[n]? = some o := by
      rw [← Array.getElem?_toList, hp, List.getElem?_append_right (by omega), hn]; simp
    refine trOf_ok (pre ++ [o]) (by rw [hp]; simp) (by simp [hn]) (by simp [ht]) ?_ ?_ h
    · intro i t hi j hj
      by_cases hlt : i < n
      · rw [List.getElem?_append_left (by omega)] at hi
        exact h1 i t hi j hj
      · rw [List.getElem?_append_right (by omega)] at hi
        have hin : i = n := by
          rcases Nat.lt_or_ge (i - tr.length) 1 with h | h
          · omega
          · rw [List.getElem?_eq_none (by simpa using h)] at hi; cases hi
        subst hin
        rw [ht, Nat.sub_self] at hi; cases hi
        obtain ⟨e, he, hb, hh⟩ := g2 j hj
        rcases hh with rfl | ⟨t', ht', hj'⟩
        · exact .edge i o e ho he hb
        · exact .trans j i o e (h1 _ _ ht' j hj') ho he hb
    · intro i o' hlt ho'
      by_cases hi : i < n
      · exact h2 i o' hi ho'
      · obtain rfl : i = n := by omega
        rw [ho] at ho'; cases ho'
        exact g1
/-- What a plan says. (The numbers are those of the operations; ex: carried out; pot: of these, which may still be outstanding in the world.) -/
def Later (ops : Array Oper) (o : Oper) (j : Nat) : Prop := ∀ oj d, ops[j]? = some oj → oj.dst = some d → d ∉ o.looksAt ops ∧ o.dst ≠ some d
inductive PlanOk (P : Program) (ops : Array Oper) : List PS → List Nat → List Nat → Prop
  | nil (ex pot : List Nat) (h : ∀ i, i < ops.size → i ∈ ex) : PlanOk P ops [] ex pot
  | rd (i : Nat) (o : Oper) (rc : List Oper) (l : List PS) (ex pot : List Nat) (ho : ops[i]? = some o) (hn : i ∉ ex) (hr : reads P o = true)
      (hl : ∀ j oj d, j ∈ pot → ops[j]? = some oj → oj.dst = some d → d ∈ o.looksAt ops → Dep ops j i) (hs : ∀ d, o.dst = some d → d ∉ o.looksAt ops)
      (hf : ∀ j oj d, j ∈ pot → ops[j]? = some oj → o.dst = some d → d ∉ oj.looksAt ops)
      (hrc : opersOf ops ((pot ++ [i]).filter (isRd P ops)) = some rc) (h : PlanOk P ops l (i :: ex) (pot ++ [i])) : PlanOk P ops (.rd o rc :: l) ex pot
  | al (i : Nat) (o : Oper) (rc : List Oper) (l : List PS) (ex pot : List Nat) (ho : ops[i]? = some o) (hn : i ∉ ex) (hr : lays o = true)
      (hl : ∀ j oj d, j ∈ pot → ops[j]? = some oj → oj.dst = some d → d ∈ o.looksAt ops → Dep ops j i) (hs : ∀ d, o.dst = some d → d ∉ o.looksAt ops)
      (hf : ∀ j oj d, j ∈ pot → ops[j]? = some oj → o.dst = some d → d ∉ oj.looksAt ops) (hlt : ∀ j, j < ops.size → j ∉ ex → j ≠ i → Later ops o j)
      (hrc : opersOf ops ((pot ++ [i]).filter (isRd P ops)) = some rc) (h : PlanOk P ops l (i :: ex) (pot ++ [i])) : PlanOk P ops (.al o rc :: l) ex pot
  | act (i : Nat) (o : Oper) (rcI : List Nat) (rc : List Oper) (l : List PS) (ex pot : List Nat) (ho : ops[i]? = some o) (hn : i ∉ ex)
      (h1 : ∀ j, j < ops.size → j ∉ ex → j ≠ i → Dep ops i j) (h2 : ∀ j, j ∈ pot → j ∈ rcI ∨ Dep ops j i) (h3 : ∀ j, j ∈ rcI → j ∈ pot)
      (h4 : ∀ j oj d, j ∈ rcI → ops[j]? = some oj → oj.dst = some d → d ∉ o.looksAt ops)
      (hrc : opersOf ops (rcI.filter (isRd P ops)) = some rc) (h : PlanOk P ops l (i :: ex) rcI) : PlanOk P ops (.act o rc :: l) ex pot
theorem looksD_ok {ops : Array Oper} {o : Oper} {j : Nat} (h : looksD ops o j = false) : ∀ oj d, ops[j]? = some oj → oj.dst = some d → d ∉ o.looksAt ops := by
  intro oj d hj hd hm
  unfold looksD at h
  rw [hj] at h
  dsimp only at h
  rw [hd] at h
  dsimp only at h
  rw [memN_ok.2 hm] at h
  cases h
theorem apartD_ok {ops : Array Oper} {o : Oper} {j : Nat} (h : apartD ops o j = true) : ∀ oj d, ops[j]? = some oj → oj.dst = some d → o.dst ≠ some d := by
  intro oj d hj hd he
  unfold apartD at h
  rw [hj] at h
  dsimp only at h
  rw [hd] at h
  dsimp only at h
  rw [he] at h
  simp at h
theorem chk_all {P : Program} {ops : Array Oper} {tr : List Nat} : ∀ {l : List PI} {ex pot : List Nat}, chk P ops tr l ex pot = true → ∀ j, j < ops.size → j ∈ ex ∨ ∃ p ∈ l, p.i = j
  | [], ex, pot, h, j, hj => by
    simp only [chk, List.all_eq_true, List.mem_range] at h
    exact .inl (memN_ok.1 (h j hj))
  | .rd i :: l, ex, pot, h, j, hj => by
    simp only [chk] at h
    split at h
    · cases h
    · simp only [Bool.and_eq_true] at h
      rcases chk_all h.2.2.2.2.2 j hj with h | ⟨p, hp, he⟩
      · rcases List.mem_cons.1 h with rfl | h
        · exact .inr ⟨_, List.mem_cons_self .., rfl⟩
        · exact .inl h
      · exact .inr ⟨p, List.mem_cons_of_mem _ hp, he⟩
  | .al i :: l, ex, pot, h, j, hj => by
    simp only [chk] at h
    split at h
    · cases h
    · simp only [Bool.and_eq_true] at h
      rcases chk_all h.2.2.2.2.2.2 j hj with h | ⟨p, hp, he⟩
      · rcases List.mem_cons.1 h with rfl | h
        · exact .inr ⟨_, List.mem_cons_self .., rfl⟩
        · exact .inl h
      · exact .inr ⟨p, List.mem_cons_of_mem _ hp, he⟩
  | .act i rc :: l, ex, pot, h, j, hj => by
    simp only [chk] at h
    split at h
    · cases h
    · simp only [Bool.and_eq_true] at h
      rcases chk_all h.2.2.2.2 j hj with h | ⟨p, hp, he⟩
      · rcases List.mem_cons.1 h with rfl | h
        · exact .inr ⟨_, List.mem_cons_self .., rfl⟩
        · exact .inl h
      · exact .inr ⟨p, List.mem_cons_of_mem _ hp, he⟩
theorem trAt_ok {ops : Array Oper} {tr : List Nat} (htr : ∀ i t, tr[i]? = some t → ∀ j, t.testBit j = true → Dep ops j i) {i j : Nat} (h : trAt tr i j = true) : Dep ops j i := by
  unfold trAt at h
  split at h
  · rename_i t ht; exact htr i t ht j h
  · cases h
theorem chk_ok {P : Program} {ops : Array Oper} {tr : List Nat} (htr : ∀ i t, tr[i]? = some t → ∀ j, t.testBit j = true → Dep ops j i) : ∀ {l : List PI} {ex pot : List Nat} {plan : List PS}, chk P ops tr l ex pot = true → mkPS P ops l pot = some plan → PlanOk P ops plan ex pot
  | [], ex, pot, plan, h, hm => by
    cases hm
    refine .nil _ _ fun i hi => ?_
    simp only [chk, List.all_eq_true, List.mem_range] at h
    exact memN_ok.1 (h i hi)
  | .rd i :: l, ex, pot, plan, h, hm => by
    simp only [chk] at h
    split at h
    · cases h
    rename_i o ho
    simp only [Bool.and_eq_true, Bool.not_eq_true'] at h
    obtain ⟨h1, h2, h3, h4, h6, h5⟩ := h
    simp only [mkPS, ho] at hm
    split at hm
    · cases hm
    rename_i rc hrc
    split at hm
    · cases hm
    rename_i m hm'
    cases hm
    refine .rd i o rc m ex pot ho (fun hh => by rw [memN_ok.2 hh] at h1; cases h1) h2 ?_ ?_ ?_ hrc (chk_ok htr h5 hm')
    · intro j oj d hj hoj hd hlk
      have := List.all_eq_true.1 h3 j hj
      rw [Bool.or_eq_true, Bool.not_eq_true'] at this
      rcases this with h | h
      · exact absurd hlk (looksD_ok h oj d hoj hd)
      · exact trAt_ok htr h
    · exact fun d hd => looksD_ok h4 o d ho hd
    · intro j oj d hj hoj hd
      have := List.all_eq_true.1 h6 j hj
      rw [hoj] at this
      exact looksD_ok (by simpa using this) o d ho hd
  | .al i :: l, ex, pot, plan, h, hm => by
    have hall := h
    simp only [chk] at h
    split at h
    · cases h
    rename_i o ho
    simp only [Bool.and_eq_true, Bool.not_eq_true'] at h
    obtain ⟨h1, h2, h3, h4, h6, h7, h5⟩ := h
    simp only [mkPS, ho] at hm
    split at hm
    · cases hm
    rename_i rc hrc
    split at hm
    · cases hm
    rename_i m hm'
    cases hm
    refine .al i o rc m ex pot ho (fun hh => by rw [memN_ok.2 hh] at h1; cases h1) h2 ?_ ?_ ?_ ?_ hrc (chk_ok htr h5 hm')
    · intro j oj d hj hoj hd hlk
      have := List.all_eq_true.1 h3 j hj
      rw [Bool.or_eq_true, Bool.not_eq_true'] at this
      rcases this with h | h
      · exact absurd hlk (looksD_ok h oj d hoj hd)
      · exact trAt_ok htr h
    · exact fun d hd => looksD_ok h4 o d ho hd
    · intro j oj d hj hoj hd
      have := List.all_eq_true.1 h6 j hj
      rw [hoj] at this
      exact looksD_ok (by simpa using this) o d ho hd
    · intro j hj hne hji
      rcases chk_all hall j hj with hh | ⟨p, hp, he⟩
      · exact absurd hh hne
      · rcases List.mem_cons.1 hp with rfl | hp
        · exact absurd he.symm hji
        · have := List.all_eq_true.1 h7 p hp
          rw [Bool.and_eq_true, Bool.not_eq_true', he] at this
          exact fun oj d hoj hd => ⟨looksD_ok this.1 oj d hoj hd, apartD_ok this.2 oj d hoj hd⟩
  | .act i rc :: l, ex, pot, plan, h, hm => by
    have hall := h
    simp only [chk] at h
    split at h
    · cases h
    rename_i o ho
    simp only [Bool.and_eq_true, Bool.not_eq_true'] at h
    obtain ⟨h1, h2, h3, h4, h5⟩ := h
    simp only [mkPS, ho] at hm
    split at hm
    · cases hm
    rename_i rs hrs
    split at hm
    · cases hm
    rename_i m hm'
    cases hm
    refine .act i o rc rs m ex pot ho (fun hh => by rw [memN_ok.2 hh] at h1; cases h1) ?_ ?_ ?_ ?_ hrs (chk_ok htr h5 hm')
    · intro j hj hne hji
      rcases chk_all hall j hj with hh | ⟨p, hp, he⟩
      · exact absurd hh hne
      · rcases List.mem_cons.1 hp with rfl | hp
        · exact absurd he.symm hji
        · rw [← he]; exact trAt_ok htr (List.all_eq_true.1 h2 p hp)
    · intro j hj
      have := List.all_eq_true.1 h3 j hj
      rw [Bool.or_eq_true] at this
      rcases this with h | h
      · exact .inl (memN_ok.1 h)
      · exact .inr (trAt_ok htr h)
    · intro j hj
      have := List.all_eq_true.1 h4 j hj
      rw [Bool.and_eq_true] at this
      exact memN_ok.1 this.1
    · intro j oj d hj hoj hd
      have := List.all_eq_true.1 h4 j hj
      rw [Bool.and_eq_true, Bool.not_eq_true'] at this
      exact looksD_ok this.2 oj d hoj hd
theorem plan_ok {P : Program} {ops : Array Oper} {plan : List PS} (h : planOf P ops = some plan) : PlanOk P ops plan [] [] ∧ Back ops ∧ P.follows .mixedOrders = true := by
  unfold planOf at h
  split at h
  · cases h
  rename_i hf
  split at h
  · cases h
  rename_i l tr hp
  split at h
  · cases h
  rename_i hc
  unfold planI at hp
  split at hp
  · cases hp
  rename_i tr' htr
  split at hp
  · cases hp
  cases hp
  obtain ⟨h1, h2⟩ := trOf_ok (ops := ops) [] (by simp) rfl rfl (by simp) (fun i o hlt => absurd hlt (by simp)) htr
  exact ⟨chk_ok h1 hc h, h2, hf⟩

/-- An order that goes by what must stand ahead. -/
inductive Fol (ops : Array Oper) : (Nat → Bool) → List Nat → Prop
  | nil (L : Nat → Bool) (h : ∀ i, i < ops.size → L i = true) : Fol ops L []
  | cons (i : Nat) (o : Oper) (l : List Nat) (L : Nat → Bool) (ho : ops[i]? = some o) (hn : L i = false) (hd : ∀ e ∈ o.after.toList, Region.binds .any e = true → L e.on = true)
      (h : Fol ops (fun j => j == i || L j) l) : Fol ops L (i :: l)
def unl (L : Nat → Bool) (n : Nat) : Nat := ((List.range n).filter fun i => !L i).length
theorem go_fol {ops : Array Oper} (hb : Back ops) : ∀ (fuel t : Nat) (listed : Array Bool) (acc : List Nat) (L : Nat → Bool), listed.size = ops.size → (∀ i, i < ops.size → listed[i]? = some (L i)) → unl L ops.size = fuel →
    ∃ l, Region.linearise.go .any ops fuel t listed acc = acc.reverse ++ l ∧ Fol ops L l := by
  intro fuel
  induction fuel with
  | zero =>
    intro t listed acc L hs hL hu
    refine ⟨[], by simp [Region.linearise.go], .nil L fun i hi => ?_⟩
    have := List.length_eq_zero_iff.1 hu
    have := List.filter_eq_nil_iff.1 this i (by simpa using hi)
    simpa using this
  | succ fuel ih =>
    intro t listed acc L hs hL hu
    have hgd : ∀ i d, i < ops.size → listed.getD i d = L i := fun i d hi => by
      rw [Array.getD_eq_getD_getElem?, hL i hi]; rfl
    -- which are ready
    have hready : ∀ i, i ∈ ((List.range ops.size).filter fun i => !listed.getD i true && ((ops[i]?).map (·.after.all fun e => !Region.binds .any e || listed.getD e.on false)).getD false) ↔
        i < ops.size ∧ L i = false ∧ ∃ o, ops[i]? = some o ∧ ∀ e ∈ o.after.toList, Region.binds .any e = true → L e.on = true := by
      intro i
      rw [List.mem_filter, List.mem_range]
      refine ⟨fun ⟨hi, h⟩ => ?_, fun ⟨hi, hn, o, ho, hd⟩ => ⟨hi, ?_⟩⟩
      · rw [hgd i true hi] at h
        have ho := Array.getElem?_eq_getElem hi
        rw [ho] at h
        simp only [Option.map_some, Option.getD_some, Bool.and_eq_true, Bool.not_eq_true'] at h
        refine ⟨hi, h.1, _, ho, fun e he hbe => ?_⟩
        have h2 := h.2
        rw [← Array.all_toList, List.all_eq_true] at h2
        have := h2 e he
        rw [hbe] at this
        have hlt := hb i _ ho e he hbe
        rw [hgd e.on false (by omega)] at this
        simpa using this
      · rw [hgd i true hi, hn, ho]
        simp only [Option.map_some, Option.getD_some, Bool.not_false, Bool.true_and]
        rw [← Array.all_toList, List.all_eq_true]
        intro e he
        cases hbe : Region.binds .any e with
        | false => rfl
        | true =>
          have hlt := hb i _ ho e he hbe
          rw [hgd e.on false (by omega), hd e he hbe]; rfl
    unfold Region.linearise.go
    generalize hrs : ((List.range ops.size).filter fun i => !listed.getD i true && ((ops[i]?).map (·.after.all fun e => !Region.binds .any e || listed.getD e.on false)).getD false) = rs at hready
    -- one is ready: the first that is not listed
    have hne : 0 < rs.length := by
      obtain ⟨i, hi⟩ : ∃ i, i ∈ (List.range ops.size).filter fun i => !L i := by
        have hpos : 0 < ((List.range ops.size).filter fun i => !L i).length := by
          have : unl L ops.size = ((List.range ops.size).filter fun i => !L i).length := rfl
          omega
        exact List.exists_mem_of_length_pos hpos
      rw [List.mem_filter, List.mem_range] at hi
      have hmin : ∀ n, ∀ i, i = n → i < ops.size → L i = false → ∃ k, k ∈ rs := by
        intro n
        induction n using Nat.strongRecOn with
        | _ n ih2 =>
          intro i hin hi hl
          by_cases hall : ∀ e ∈ (ops[i]).after.toList, Region.binds .any e = true → L e.on = true
          · exact ⟨i, (hready i).2 ⟨hi, hl, _, Array.getElem?_eq_getElem hi, hall⟩⟩
          · have : ∃ e, e ∈ (ops[i]).after.toList ∧ Region.binds .any e = true ∧ L e.on = false := by
              refine Classical.byContradiction fun hno => hall fun e he hbe => ?_
              cases hle : L e.on with
              | true => rfl
              | false => exact absurd ⟨e, he, hbe, hle⟩ hno
            obtain ⟨e, he, hbe, hle⟩ := this
            have hlt := hb i _ (Array.getElem?_eq_getElem hi) e he hbe
            exact ih2 e.on (by omega) e.on rfl (by omega) hle
      obtain ⟨k, hk⟩ := hmin i i rfl hi.1 (by simpa using hi.2)
      exact List.length_pos_of_mem hk
    have hlt : t % rs.length < rs.length := Nat.mod_lt _ hne
    simp only [List.getElem?_eq_getElem hlt]
    have hmem := (hready _).1 (List.getElem_mem hlt)
    generalize rs[t % rs.length] = i at hmem
    obtain ⟨hi, hn, o, ho, hd⟩ := hmem
    have hcnt : unl (fun j => j == i || L j) ops.size = fuel := by
      have h1 : ∀ n, i < n → unl L n = unl (fun j => j == i || L j) n + 1 := by
        intro n
        induction n with
        | zero => intro h; omega
        | succ n ihn =>
          intro hlt'
          simp only [unl, List.range_succ, List.filter_append, List.length_append] at ihn ⊢
          by_cases hin : i = n
          · subst hin
            have heq : ((List.range i).filter fun j => !(j == i || L j)) = (List.range i).filter fun j => !L j := by
              apply List.filter_congr
              intro x hx
              have : x ≠ i := by have := List.mem_range.1 hx; omega
              simp [this]
            rw [heq]
            simp [hn]
          · have := ihn (by omega)
            have hni : (n == i) = false := by simpa using Ne.symm hin
            have e2 : ([n].filter fun j => !(j == i || L j)) = [n].filter fun j => !L j := by simp [List.filter_cons, hni]
            rw [e2]; omega
      have := h1 ops.size hi
      omega
    obtain ⟨l, e1, e2⟩ := ih (t / rs.length) (listed.setIfInBounds i true) (i :: acc) (fun j => j == i || L j) (by simpa using hs) (fun j hj => by
      by_cases hji : j = i
      · subst hji; simp [hs, hj]
      · rw [Array.getElem?_setIfInBounds_ne (Ne.symm hji), hL j hj]; simp [hji]) hcnt
    exact ⟨i :: l, by rw [e1]; simp, .cons i o l L ho hn hd e2⟩
theorem schedule_fol {ops : Array Oper} (hb : Back ops) (t : Nat) : Fol ops (fun _ => false) (Region.schedule true ops t) := by
  unfold Region.schedule
  simp only [Bool.true_or, if_true]
  unfold Region.linearise
  obtain ⟨l, e1, e2⟩ := go_fol hb ops.size t (Array.replicate ops.size false) [] (fun _ => false) (by simp) (fun i hi => by simp [hi]) (by unfold unl; rw [List.filter_eq_self.2 (by simp)]; simp)
  rw [e1]; exact e2
/-- What was carried out is shut under what stands ahead. -/
def Shut (ops : Array Oper) (L : Nat → Bool) : Prop := ∀ i o, ops[i]? = some o → L i = true → ∀ e ∈ o.after.toList, Region.binds .any e = true → L e.on = true
theorem Dep.ahead {ops : Array Oper} {L : Nat → Bool} (hs : Shut ops L) {j i : Nat} (h : Dep ops j i) {o : Oper} (ho : ops[i]? = some o) (hd : ∀ e ∈ o.after.toList, Region.binds .any e = true → L e.on = true) : L j = true := by
  induction h generalizing o with
  | edge i o' e ho' he hb => rw [ho] at ho'; cases ho'; exact hd e he hb
  | trans j i o' e h ho' he hb ih =>
    rw [ho] at ho'; cases ho'
    have hl := hd e he hb
    cases hoe : ops[e.on]? with
    | none =>
      -- nothing stands there: it cannot stand behind anything
      cases h with
      | edge _ o2 e2 ho2 => rw [hoe] at ho2; cases ho2
      | trans _ _ o2 e2 _ ho2 => rw [hoe] at ho2; cases ho2
    | some o2 => exact ih hoe (hs e.on o2 hoe hl)
end
end Go.Ev
