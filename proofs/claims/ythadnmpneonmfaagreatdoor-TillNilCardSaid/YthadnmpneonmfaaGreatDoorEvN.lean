/- The step machine: iterators, appends, copies. -/
import Derived.Test.YthadnmpneonmfaaGreatDoorEvM
namespace Go.Ev
open Go Go.RowKit
noncomputable section
section ops
variable {P : Program} {w0 : Base} {w : World} {r : Ren} {h : H} {tm : Nat → Option V} {ρ : Operand → Value}
variable {β : Type} {kv : V → H → Option β} {res : β}

theorem filter_ok (seen : List Nat) : ∀ {es : List (V × V × Nat)} {xs : List MapEntry}, ERs r es xs → ERs r (es.filter fun e => !seen.contains e.2.2) (xs.filter fun e => !seen.contains e.born)
  | _, _, .nil => .nil
  | _, _, .cons k v b x y es xs h1 h2 h => by
    simp only [List.filter_cons]
    split
    · exact .cons k v b x y _ _ h1 h2 (filter_ok seen h)
    · exact filter_ok seen h
theorem all_ok (last : Nat) : ∀ {es : List (V × V × Nat)} {xs : List MapEntry}, ERs r es xs → xs.all (fun e => decide (e.born ≥ last)) = es.all (fun e => Nat.ble last e.2.2)
  | _, _, .nil => rfl
  | _, _, .cons k v b x y es xs h1 h2 h => by
    simp only [List.all_cons, all_ok last h]
    congr 1
    rw [Bool.eq_iff_iff]; simp [Nat.ble_eq]
theorem ERs.isEmpty : ∀ {es : List (V × V × Nat)} {xs : List MapEntry}, ERs r es xs → xs.isEmpty = es.isEmpty
  | _, _, .nil => rfl
  | _, _, .cons .. => rfl
theorem decode_ascii {x : ByteArray} {pos c : Nat} {l : List Nat} (h : (x.data.toList.map UInt8.toNat).drop pos = c :: l) (hc : c < 128) : pos < x.size ∧ Utf8.decode x pos = (c, 1) := by
  have h1 : (x.data.toList.map UInt8.toNat)[pos]? = some c := by
    have : ((x.data.toList.map UInt8.toNat).drop pos)[0]? = some c := by rw [h]; rfl
    simpa using this
  have hlt : pos < x.size := by
    have := (List.getElem?_eq_some_iff.1 h1).1
    rw [size_data] at this; exact this
  refine ⟨hlt, ?_⟩
  have hg : (x.get! (pos + 0)).toNat = c := by
    rw [List.getElem?_map] at h1
    have hlt' : pos < x.data.size := hlt
    have e : x.data.toList[pos]? = some x.data[pos] := by simp [hlt']
    rw [e] at h1
    have : x.get! (pos + 0) = x.data[pos] := by
      show x.data[pos]! = _
      rw [getElem!_pos x.data pos hlt']
    rw [this]; simpa using h1
  unfold Utf8.decode
  simp only [hg]
  rw [if_pos hc]
theorem next_str_ok (hr : HR P w0 r h w) {it pos ty c0 p1 : Nat} {s l : List Nat} {y : Value} (hy : VR r (.ptr it 0) y) (hb : h.t.get it = some (.strIter s pos)) (hd : s.drop pos = c0 :: l) (hc0 : c0 < 128) (hp : p1 = pos + 1) :
    ∃ w', HR P w0 r ⟨h.t.set it (.strIter s p1), h.nx⟩ w' ∧ (Instr.next y true ty).run P w = .ok (.tuple #[.bool true, .int .i64 (pos : Int), .int .i32 (c0 : Int)]) w' := by
  subst hp
  obtain ⟨c, rfl, hc⟩ := hy.ptr_inv
  obtain ⟨c', hc', ⟨x, h0, hx⟩, _⟩ := hr.ob it _ hb rfl _ hc
  obtain rfl : c' = c := by rw [hc] at hc'; exact (Option.some.inj hc').symm
  have hlt : c' < w.heap.size := (Array.getElem?_eq_some_iff.1 h0).1
  obtain ⟨d1, d2⟩ := decode_ascii (by rw [hx]; exact hd) hc0
  have hg := getObj_run (P := P) h0 (by intros; simp)
  have hs : ∀ o', (setObj c' o').run P w = .ok () { w with heap := w.heap.setIfInBounds c' o' } := fun o' => setObj_run h0 (by intros; simp)
  refine ⟨_, hr.upd (o' := .strIter s (pos + 1)) hb rfl rfl hc (Upd.setObj (.stringIter x (pos + 1))) fun _ => ⟨x, by simp [hlt], hx⟩, ?_⟩
  simp [Instr.next, hg, hs, d1, d2, Result.andThen, goInt]
theorem next_str_end (hr : HR P w0 r h w) {it pos ty : Nat} {s : List Nat} {y : Value} (hy : VR r (.ptr it 0) y) (hb : h.t.get it = some (.strIter s pos)) (hd : s.drop pos = []) :
    (Instr.next y true ty).run P w = .ok (.tuple #[.bool false]) w := by
  obtain ⟨c, rfl, hc⟩ := hy.ptr_inv
  obtain ⟨c', hc', ⟨x, h0, hx⟩, _⟩ := hr.ob it _ hb rfl _ hc
  obtain rfl : c' = c := by rw [hc] at hc'; exact (Option.some.inj hc').symm
  have hg := getObj_run (P := P) h0 (by intros; simp)
  have : ¬ pos < x.size := by
    rw [← size_data, hx]
    have := List.drop_eq_nil_iff.1 hd; omega
  simp [Instr.next, hg, this, Result.andThen]
theorem next_nil (hr : HR P w0 r h w) {it since last ty : Nat} {seen : List Nat} {y : Value} (hy : VR r (.ptr it 0) y) (hb : h.t.get it = some (.mapIter none since seen last)) :
    (Instr.next y false ty).run P w = .ok (.tuple #[.bool false]) w := by
  obtain ⟨c, rfl, hc⟩ := hy.ptr_inv
  obtain ⟨m', h0, h1⟩ := hr.iter hb hc
  obtain rfl : m' = none := h1
  have hg := getObj_run (P := P) h0 (by intros; simp)
  simp [Instr.next, hg, Result.andThen]
/-- The next of a map's iterator, by the candidates. -/
theorem next_run {c cm since last clock ty : Nat} {seen : Array Nat} {xs : Array MapEntry} (h0 : w.heap[c]? = some (.mapIter (some cm) since seen last)) (h1 : w.heap[cm]? = some (.map xs clock))
    (hg : (!seen.isEmpty && !xs.isEmpty && xs.all fun e => decide (e.born ≥ last)) = false) :
    (∀ e, (xs.filter fun e => !seen.contains e.born) = #[e] → e.born < since →
      (Instr.next (.pointer (some ⟨c, 0, none⟩)) false ty).run P w = .ok (.tuple #[.bool true, e.key, e.val]) { w with heap := w.heap.setIfInBounds c (.mapIter (some cm) since (seen.push e.born) clock) }) ∧
    ((xs.filter fun e => !seen.contains e.born) = #[] → (Instr.next (.pointer (some ⟨c, 0, none⟩)) false ty).run P w = .ok (.tuple #[.bool false]) w) ∧
    ((∀ e ∈ xs, e.born < since) → 1 < (xs.filter fun e => !seen.contains e.born).size → ∃ (e : MapEntry) (w1 : World), e ∈ xs.filter (fun e => !seen.contains e.born) ∧ w1.heap = w.heap ∧ w1.os = w.os ∧ w1.tape = w.tape ∧ w1.output = w.output ∧
      (Instr.next (.pointer (some ⟨c, 0, none⟩)) false ty).run P w = .ok (.tuple #[.bool true, e.key, e.val]) { w1 with heap := w1.heap.setIfInBounds c (.mapIter (some cm) since (seen.push e.born) clock) }) := by
  have hg0 := getObj_run (P := P) h0 (by intros; simp)
  have hg1 := getObj_run (P := P) h1 (by intros; simp)
  refine ⟨fun e he hb => ?_, fun he => ?_, fun hall hsz => ?_⟩
  · have hs : ∀ o', (setObj c o').run P w = .ok () { w with heap := w.heap.setIfInBounds c o' } := fun o' => setObj_run h0 (by intros; simp)
    have hnb : ¬ (e.born ≥ since) := by omega
    have h1 : (#[e] : Array MapEntry).filter (fun e => decide (e.born < since)) = #[e] := by simp [hb]
    have h2 : (#[e] : Array MapEntry).filter (fun e => decide (e.born ≥ since)) = #[] := by simp [hb]
    unfold Instr.next
    simp only [Sem.run_bind, hg0, andThen_ok, hg1, hg, Bool.false_eq_true, if_false, Sem.run_pure, he, h1, h2]
    simp [Question.forced, Result.andThen, hs]
  · unfold Instr.next
    simp only [Sem.run_bind, hg0, andThen_ok, hg1, hg, Bool.false_eq_true, if_false, Sem.run_pure, he]
    simp [Question.forced, Result.andThen]
  · generalize hl : (xs.filter fun e => !seen.contains e.born) = left at hsz ⊢
    have hmem : ∀ e ∈ left, e.born < since := fun e he => by
      rw [← hl] at he
      exact hall e (Array.mem_filter.1 he).1
    have h1 : left.filter (fun e => decide (e.born < since)) = left := by
      apply Array.filter_eq_self.2
      intro a ha; simpa using hmem a ha
    have h2 : left.filter (fun e => decide (e.born ≥ since)) = #[] := by
      apply Array.filter_eq_empty_iff.2
      intro a ha; have := hmem a ha; simp; omega
    have hne : left.isEmpty = false := by
      rw [Bool.eq_false_iff]; intro h; have := Array.isEmpty_iff_size_eq_zero.1 h; omega
    have hq : (Question.mapNext left.size).forced = false := by simp [Question.forced]; omega
    have hklt : w.tape w.drawn (Question.mapNext left.size) % left.size < left.size := Nat.mod_lt _ (by omega)
    refine ⟨left[w.tape w.drawn (Question.mapNext left.size) % left.size], w.drew, by simp, rfl, rfl, rfl, rfl, ?_⟩
    have hs : ∀ o', (setObj c o').run P w.drew = .ok () { w.drew with heap := w.drew.heap.setIfInBounds c o' } := fun o' => setObj_run (w := w.drew) h0 (by intros; simp)
    unfold Instr.next
    simp only [Sem.run_bind, hg0, andThen_ok, hg1, hg, Bool.false_eq_true, if_false, Sem.run_pure, hl, h1, h2, hne]
    simp [hq, Result.andThen, hs, Question.cut, hklt]
end ops
end
end Go.Ev
