/- The step machine: iterators over maps, appends, copies. -/
import Derived.Test.YthadnmpneonmfaaGreatDoorEvN
namespace Go.Ev
open Go Go.RowKit
noncomputable section
section ops
variable {P : Program} {w0 : Base} {w : World} {r : Ren} {h : H} {tm : Nat → Option V} {ρ : Operand → Value}
variable {β : Type} {kv : V → H → Option β} {res : β}

theorem ERs.arr {es : List (V × V × Nat)} {xs : Array MapEntry} (seen : List Nat) (hE : ERs r es xs.toList) : ERs r (es.filter fun e => !seen.contains e.2.2) (xs.filter fun e => !seen.toArray.contains e.born).toList := by
  have := filter_ok seen hE
  rw [Array.toList_filter]
  have e : (fun e : MapEntry => !seen.toArray.contains e.born) = (fun e => !seen.contains e.born) := by funext e; simp
  rw [e]; exact this
theorem guard_eq {es : List (V × V × Nat)} {xs : Array MapEntry} {seen : List Nat} {last : Nat} (hE : ERs r es xs.toList) :
    (!seen.toArray.isEmpty && !xs.isEmpty && xs.all fun e => decide (e.born ≥ last)) = (!seen.isEmpty && !es.isEmpty && es.all fun e => Nat.ble last e.2.2) := by
  rw [← all_ok last hE, ← hE.isEmpty]
  simp
theorem uniform_mem : ∀ {v : V} {since : Nat} {es : List (V × V × Nat)} {xs : List MapEntry}, ERs r es xs → uniform v since es = true → ∀ e ∈ xs, e.born < since :=
  fun h hu e he => (uniform_ok h hu e he).2
theorem nodupN_ok : ∀ {l : List Nat}, nodupN l = true → l.Nodup
  | [], _ => List.nodup_nil
  | a :: l, h => by
    simp only [nodupN, Bool.and_eq_true, Bool.not_eq_true'] at h
    refine List.nodup_cons.2 ⟨fun hm => ?_, nodupN_ok h.2⟩
    have := h.1
    rw [Bool.eq_false_iff] at this
    exact this (List.any_eq_true.2 ⟨a, hm, Nat.beq_refl a⟩)
theorem next_one_ok (hr : HR P w0 r h w) {it m since last clock ty kb : Nat} {seen : List Nat} {es : List (V × V × Nat)} {key val : V} {y : Value} (hy : VR r (.ptr it 0) y) (hb : h.t.get it = some (.mapIter (some m) since seen last)) (hm : h.t.get m = some (.map es clock))
    (hg : (!seen.isEmpty && !es.isEmpty && es.all fun e => Nat.ble last e.2.2) = false) (hf : es.filter (fun e => !seen.contains e.2.2) = [(key, val, kb)]) (hlt : kb < since) :
    ∃ x u w', HR P w0 r ⟨h.t.set it (.mapIter (some m) since (seen ++ [kb]) clock), h.nx⟩ w' ∧ VR r key x ∧ VR r val u ∧ (Instr.next y false ty).run P w = .ok (.tuple #[.bool true, x, u]) w' := by
  obtain ⟨c, rfl, hc⟩ := hy.ptr_inv
  obtain ⟨m', h0, cm, hcm, rfl⟩ := hr.iter hb hc
  obtain ⟨xs, h1, hE⟩ := hr.map hm hcm
  have hl := hE.arr seen
  rw [hf] at hl
  obtain ⟨e, he, hk, hv, hbb⟩ : ∃ e : MapEntry, (xs.filter fun e => !seen.toArray.contains e.born) = #[e] ∧ VR r key e.key ∧ VR r val e.val ∧ e.born = kb := by
    generalize hz : (xs.filter fun e => !seen.toArray.contains e.born) = z at hl
    obtain ⟨z⟩ := z
    simp only at hl
    cases hl with
    | cons _ _ _ x u _ ys hk hv hr => cases hr; exact ⟨⟨x, u, kb⟩, rfl, hk, hv, rfl⟩
  have hlt' : c < w.heap.size := (Array.getElem?_eq_some_iff.1 h0).1
  obtain ⟨h2, _, _⟩ := next_run (P := P) (ty := ty) h0 h1 (by rw [guard_eq hE]; exact hg)
  refine ⟨e.key, e.val, _, ?_, hk, hv, h2 e he (by omega)⟩
  refine hr.upd (o' := .mapIter (some m) since (seen ++ [kb]) clock) hb rfl rfl hc (Upd.setObj _) fun _ => ⟨some cm, ?_, cm, hcm, rfl⟩
  simp [hlt', hbb]
theorem next_end_ok (hr : HR P w0 r h w) {it m since last clock ty : Nat} {seen : List Nat} {es : List (V × V × Nat)} {y : Value} (hy : VR r (.ptr it 0) y) (hb : h.t.get it = some (.mapIter (some m) since seen last)) (hm : h.t.get m = some (.map es clock))
    (hg : (!seen.isEmpty && !es.isEmpty && es.all fun e => Nat.ble last e.2.2) = false) (hf : es.filter (fun e => !seen.contains e.2.2) = []) :
    (Instr.next y false ty).run P w = .ok (.tuple #[.bool false]) w := by
  obtain ⟨c, rfl, hc⟩ := hy.ptr_inv
  obtain ⟨m', h0, cm, hcm, rfl⟩ := hr.iter hb hc
  obtain ⟨xs, h1, hE⟩ := hr.map hm hcm
  have hl := hE.arr seen
  rw [hf] at hl
  obtain ⟨_, h2, _⟩ := next_run (P := P) (ty := ty) h0 h1 (by rw [guard_eq hE]; exact hg)
  refine h2 ?_
  generalize (xs.filter fun e => !seen.toArray.contains e.born) = z at hl
  obtain ⟨z⟩ := z
  cases hl; rfl
theorem one_elem {α : Type} {z : Array α} (h : z.size = 1) : ∃ e, z = #[e] := by
  obtain ⟨z⟩ := z
  match z, h with
  | [e], _ => exact ⟨e, rfl⟩
/-- Of a map whose values are all one: whichever entry comes. -/
theorem next_uni (hr : HR P w0 r h w) {it m c cm since last clock ty cnt : Nat} {seen : Array Nat} {es : List (V × V × Nat)} {val : V} {xs : Array MapEntry} {o : AObj} (hb : h.t.get it = some o) (hlv : o.live = true) (hrw : o.rw = true) (hc : r.at_ it = some c) (hcm : r.at_ m = some cm)
    (h0 : w.heap[c]? = some (.mapIter (some cm) since seen last)) (h1 : w.heap[cm]? = some (.map xs clock)) (hE : ERs r es xs.toList) (hu : uniform val since es = true)
    (hg : (!seen.isEmpty && !xs.isEmpty && xs.all fun e => decide (e.born ≥ last)) = false) (hnd : seen.toList.Nodup) (hin : ∀ x ∈ seen.toList, x ∈ stampsOf es) (hst : (stampsOf es).Nodup) (hcnt : seen.size = cnt)
    (hsz : 1 < (xs.filter fun e => !seen.contains e.born).size ∨ ∃ e, (xs.filter fun e => !seen.contains e.born) = #[e]) :
    ∃ x u w', HR P w0 r ⟨h.t.set it (.mapIterU m since (stampsOf es) (cnt + 1) clock), h.nx⟩ w' ∧ VR r val u ∧ (Instr.next (.pointer (some ⟨c, 0, none⟩)) false ty).run P w = .ok (.tuple #[.bool true, x, u]) w' := by
  have hlt : c < w.heap.size := (Array.getElem?_eq_some_iff.1 h0).1
  obtain ⟨n1, _, n3⟩ := next_run (P := P) (ty := ty) h0 h1 hg
  have hfin : ∀ e ∈ xs.filter (fun e => !seen.contains e.born), VR r val e.val ∧ e.born < since ∧ (seen.push e.born).toList.Nodup ∧ (∀ x ∈ (seen.push e.born).toList, x ∈ stampsOf es) := by
    intro e he
    obtain ⟨h2, h3⟩ := Array.mem_filter.1 he
    obtain ⟨hv, hb'⟩ := uniform_ok hE hu e (by simpa using h2)
    have hni : e.born ∉ seen.toList := by simpa using h3
    refine ⟨hv, hb', ?_, ?_⟩
    · rw [Array.toList_push]
      refine List.nodup_append.2 ⟨hnd, by simp, fun a ha b hb e' => ?_⟩
      simp at hb; subst hb; subst e'; exact hni ha
    · intro x hx
      rw [Array.toList_push] at hx
      rcases List.mem_append.1 hx with hx | hx
      · exact hin x hx
      · simp at hx; subst hx
        rw [← stampsOf_ok hE]
        exact List.mem_map.2 ⟨e, by simpa using h2, rfl⟩
  rcases hsz with hsz | ⟨e, he⟩
  · obtain ⟨e, w1, hmem, e1, e2, e3, e4, hrun⟩ := n3 (fun e he => uniform_mem hE hu e (by simpa using he)) hsz
    obtain ⟨hv, _, hn, hi⟩ := hfin e hmem
    refine ⟨e.key, e.val, _, ?_, hv, hrun⟩
    have hr1 := hr.same (w' := w1) e1 e2 e3 e4
    refine hr1.upd (o' := .mapIterU m since (stampsOf es) (cnt + 1) clock) hb hlv hrw hc (Upd.setObj _) fun _ => ⟨cm, seen.push e.born, ?_, hcm, by simp [hcnt], hn, hi, hst⟩
    simp [e1, hlt]
  · obtain ⟨hv, hb', hn, hi⟩ := hfin e (by rw [he]; simp)
    refine ⟨e.key, e.val, _, ?_, hv, n1 e he hb'⟩
    refine hr.upd (o' := .mapIterU m since (stampsOf es) (cnt + 1) clock) hb hlv hrw hc (Upd.setObj _) fun _ => ⟨cm, seen.push e.born, ?_, hcm, by simp [hcnt], hn, hi, hst⟩
    simp [hlt]
theorem next_first_ok (hr : HR P w0 r h w) {it m since last clock ty : Nat} {es : List (V × V × Nat)} {e1 e2 : V × V × Nat} {el : List (V × V × Nat)} {y : Value} (hy : VR r (.ptr it 0) y) (hb : h.t.get it = some (.mapIter (some m) since [] last)) (hm : h.t.get m = some (.map es clock))
    (hf : es.filter (fun e => !([] : List Nat).contains e.2.2) = e1 :: e2 :: el) (hu : uniform e1.2.1 since es = true) (hst : nodupN (stampsOf es) = true) :
    ∃ x u w', HR P w0 r ⟨h.t.set it (.mapIterU m since (stampsOf es) 1 clock), h.nx⟩ w' ∧ VR r e1.2.1 u ∧ (Instr.next y false ty).run P w = .ok (.tuple #[.bool true, x, u]) w' := by
  obtain ⟨c, rfl, hc⟩ := hy.ptr_inv
  obtain ⟨m', h0, cm, hcm, rfl⟩ := hr.iter hb hc
  obtain ⟨xs, h1, hE⟩ := hr.map hm hcm
  refine next_uni hr (seen := #[]) hb rfl rfl hc hcm h0 h1 hE hu (by simp) (by simp) (by simp) (nodupN_ok hst) rfl (.inl ?_)
  have hl := (hE.arr []).length
  rw [hf] at hl
  simp only [List.length_cons] at hl
  rw [Array.length_toList] at hl
  have hl' : el.length + 1 + 1 = (Array.filter (fun e => !(#[] : Array Nat).contains e.born) xs).size := hl
  rw [← hl']; omega
theorem pigeon : ∀ (seen st : List Nat), seen.Nodup → st.Nodup → (∀ x ∈ seen, x ∈ st) → seen.length ≤ st.length ∧ (seen.length = st.length → ∀ x ∈ st, x ∈ seen)
  | [], st, _, _, _ => ⟨by simp, fun h x hx => by rw [List.length_nil] at h; rw [List.length_eq_zero_iff.1 h.symm] at hx; cases hx⟩
  | a :: seen, st, h1, h2, h3 => by
    obtain ⟨hna, hnd⟩ := List.nodup_cons.1 h1
    have ha := h3 a (List.mem_cons_self ..)
    have hl := List.length_erase_of_mem ha
    have hpos : 0 < st.length := List.length_pos_of_mem ha
    obtain ⟨i1, i2⟩ := pigeon seen (st.erase a) hnd (h2.erase a) (fun x hx => by
      have hne : x ≠ a := fun e => hna (e ▸ hx)
      exact (List.mem_erase_of_ne hne).2 (h3 x (List.mem_cons_of_mem _ hx)))
    refine ⟨by simp only [List.length_cons]; omega, fun he x hx => ?_⟩
    by_cases hxa : x = a
    · subst hxa; exact List.mem_cons_self ..
    · exact List.mem_cons_of_mem _ (i2 (by simp only [List.length_cons] at he; omega) x ((List.mem_erase_of_ne hxa).2 hx))
theorem next_more_ok (hr : HR P w0 r h w) {it m since last clock ty cnt : Nat} {st : List Nat} {es : List (V × V × Nat)} {e1 : V × V × Nat} {el : List (V × V × Nat)} {y : Value} (hy : VR r (.ptr it 0) y) (hb : h.t.get it = some (.mapIterU m since st cnt last)) (hm : h.t.get m = some (.map es clock))
    (hse : stampsOf es = st) (hg : (!es.isEmpty && es.all fun e => Nat.ble last e.2.2) = false) (hes : es = e1 :: el) (hu : uniform e1.2.1 since es = true) (hne : cnt ≠ st.length) :
    ∃ x u w', HR P w0 r ⟨h.t.set it (.mapIterU m since (stampsOf es) (cnt + 1) clock), h.nx⟩ w' ∧ VR r e1.2.1 u ∧ (Instr.next y false ty).run P w = .ok (.tuple #[.bool true, x, u]) w' := by
  obtain ⟨c, rfl, hc⟩ := hy.ptr_inv
  obtain ⟨cm, seen, h0, hcm, hs, hnd, hin, hst⟩ := hr.iterU hb hc
  obtain ⟨xs, h1, hE⟩ := hr.map hm hcm
  subst hse
  have hg' : (!seen.isEmpty && !xs.isEmpty && xs.all fun e => decide (e.born ≥ last)) = false := by
    have e1 := all_ok last hE
    have e2 := hE.isEmpty
    rw [Array.isEmpty_toList] at e2
    rw [Array.all_toList] at e1
    rw [e1, e2, Bool.and_assoc, hg, Bool.and_false]
  refine next_uni hr hb rfl rfl hc hcm h0 h1 hE hu hg' hnd hin hst hs ?_
  -- some entry has not been seen
  have hex : ∃ e ∈ xs, e.born ∉ seen.toList := by
    refine Classical.byContradiction fun hno => hne ?_
    have hall : ∀ x ∈ stampsOf es, x ∈ seen.toList := fun x hx => by
      rw [← stampsOf_ok hE] at hx
      obtain ⟨e, he, rfl⟩ := List.mem_map.1 hx
      exact Classical.byContradiction fun h => hno ⟨e, by simpa using he, h⟩
    have p1 := (pigeon _ _ hnd hst hin).1
    have p2 := (pigeon _ _ hst hnd hall).1
    have : seen.toList.length = cnt := by simpa using hs
    omega
  obtain ⟨e, he, hns⟩ := hex
  have hmem : e ∈ xs.filter (fun e => !seen.contains e.born) := Array.mem_filter.2 ⟨he, by simpa using hns⟩
  have hpos := Array.size_pos_of_mem hmem
  rcases Nat.lt_or_ge 1 (xs.filter fun e => !seen.contains e.born).size with h | h
  · exact .inl h
  · exact .inr (one_elem (by omega))
theorem next_done_ok (hr : HR P w0 r h w) {it m since last clock ty cnt : Nat} {st : List Nat} {es : List (V × V × Nat)} {y : Value} (hy : VR r (.ptr it 0) y) (hb : h.t.get it = some (.mapIterU m since st cnt last)) (hm : h.t.get m = some (.map es clock))
    (hse : stampsOf es = st) (hg : (!es.isEmpty && es.all fun e => Nat.ble last e.2.2) = false) (hne : cnt = st.length) : (Instr.next y false ty).run P w = .ok (.tuple #[.bool false]) w := by
  obtain ⟨c, rfl, hc⟩ := hy.ptr_inv
  obtain ⟨cm, seen, h0, hcm, hs, hnd, hin, hst⟩ := hr.iterU hb hc
  obtain ⟨xs, h1, hE⟩ := hr.map hm hcm
  subst hse
  have hg' : (!seen.isEmpty && !xs.isEmpty && xs.all fun e => decide (e.born ≥ last)) = false := by
    have e1 := all_ok last hE
    have e2 := hE.isEmpty
    rw [Array.isEmpty_toList] at e2
    rw [Array.all_toList] at e1
    rw [e1, e2, Bool.and_assoc, hg, Bool.and_false]
  obtain ⟨_, h2, _⟩ := next_run (P := P) (ty := ty) h0 h1 hg'
  refine h2 (Array.filter_eq_empty_iff.2 fun e he => ?_)
  have hall := (pigeon _ _ hnd hst hin).2 (by rw [Array.length_toList]; omega)
  have : e.born ∈ seen.toList := hall _ (by rw [← stampsOf_ok hE]; exact List.mem_map.2 ⟨e, by simpa using he, rfl⟩)
  simpa using this
end ops
end
end Go.Ev
