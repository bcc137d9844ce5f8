/- The step machine: appends, copies, texts as bytes. -/
import Derived.Test.YthadnmpneonmfaaGreatDoorEvK
namespace Go.Ev
open Go Go.RowKit
noncomputable section
section ops
variable {P : Program} {w0 : Base} {w : World} {r : Ren} {h : H} {tm : Nat → Option V} {ρ : Operand → Value}
variable {β : Type} {kv : V → H → Option β} {res : β}

theorem elemsOf_ok (hr : HR P w0 r h w) {esz n : Nat} {x : V} {y : Value} {l : List V} (hx : VR r x y) (he : elemsOf h esz x = some (l, n)) :
    (∀ w, (Builtin.lenOf y).run P w = .ok n w) ∧ l.length = n * esz ∧ ∀ k, k ≤ n → ∃ xs : List Value, VRs r (l.take (k * esz)) xs ∧ ∀ d : World, d.heap = w.heap → (Builtin.firstCells esz k y).run P d = .ok ⟨xs⟩ d := by
  unfold elemsOf at he
  split at he
  · cases he
    rw [hx.nils_inv]
    exact ⟨fun _ => rfl, by simp, fun k hk => ⟨[], by simp; exact .nil, fun _ _ => rfl⟩⟩
  · cases he
    obtain ⟨a, m, rfl⟩ := hx.emp_inv
    refine ⟨fun _ => rfl, by simp, fun k hk => ?_⟩
    obtain rfl : k = 0 := by omega
    exact ⟨[], by simp; exact .nil, fun d _ => by simp [Builtin.firstCells, loadCells, loadCellsFrom]⟩
  · rename_i b off m cap
    split at he
    · rename_i l' hl
      cases he
      obtain ⟨c, cp, rfl, hc, _⟩ := hx.sl_inv
      refine ⟨fun _ => rfl, (loadN_ok hr hc hl).choose_spec.2.1, fun k hk => ?_⟩
      obtain ⟨xs, h1, _, h3⟩ := loadN_take hr hc hl (Nat.mul_le_mul_right esz hk)
      exact ⟨xs, h1, fun d hd => by simpa [Builtin.firstCells] using h3 d hd⟩
    · cases he
  · split at he
    · cases he
      obtain ⟨q, rfl, hq⟩ := hx.str_inv
      refine ⟨fun w => by rw [← hq, size_data]; rfl, by simp, fun k hk => ?_⟩
      have hk' : k ≤ q.size := by rw [← hq, size_data] at hk; exact hk
      refine ⟨((q.extract 0 k).data.map fun b => Value.int .u8 b.toNat).toList, ?_, fun _ _ => rfl⟩
      rw [Array.toList_map, ByteArray.data_extract, Array.toList_extract]
      simp only [List.extract, List.drop_zero, Nat.sub_zero, Nat.mul_one]
      rw [← hq, ← List.map_take, ← List.map_take, List.map_map]
      generalize List.take k q.data.toList = z
      induction z with
      | nil => exact .nil
      | cons a z ih => exact .cons _ _ _ _ (.int .u8 _) ih
    · cases he
  · cases he
theorem growBy_le (need : Nat) : ∀ (n c : Nat), Builtin.growBy need n c ≤ max c (need + (need + 768) / 4)
  | 0, c => by simp [Builtin.growBy]; omega
  | n + 1, c => by
    simp only [Builtin.growBy]
    split
    · omega
    · have := growBy_le need n (c + (c + 768) / 4)
      omega
theorem cap_bound (need c : Nat) (h : c < need) : Builtin.nextslicecap need c ≤ 2 * need + 1024 := by
  unfold Builtin.nextslicecap
  split
  · omega
  · split
    · omega
    · have := growBy_le need 4 c; omega
theorem cap_small {need c by_ : Nat} (h : c < need) (hs : need * (by_ + 1) ≤ 100000000) : ¬ (Builtin.nextslicecap need c * by_ > 2 ^ 48) := by
  have h1 := cap_bound need c h
  have h2 : need ≤ 100000000 := Nat.le_trans (Nat.le_mul_of_pos_right need (by omega)) hs
  have h3 : by_ + 1 ≤ 100000000 := Nat.le_trans (Nat.le_mul_of_pos_left (by_ + 1) (by omega)) hs
  have h4 : Builtin.nextslicecap need c * by_ ≤ (2 * need + 1024) * by_ := Nat.mul_le_mul_right _ h1
  have h5 : (2 * need + 1024) * by_ = 2 * (need * by_) + 1024 * by_ := by rw [Nat.add_mul, Nat.mul_assoc]
  have h6 : need * by_ ≤ need * (by_ + 1) := Nat.mul_le_mul_left _ (by omega)
  omega
def newCap (w : World) (need old e : Nat) : Nat := (Question.appendCap need old e).cut (w.tape w.drawn (.appendCap need old e))
theorem newCap_le (w : World) (need old e : Nat) : need ≤ newCap w need old e := by simp [newCap, Question.cut]
theorem isInt_false {d : TypeDesc} (hd : ∀ k, d ≠ .int k) : (match d with | .int _ => true | _ => false) = false := by cases d <;> first | rfl | exact absurd rfl (hd _)
set_option maxHeartbeats 1600000 in
/-- An append's new row. -/
theorem append_new {t u elem esz by_ sLen sCap n ty : Nat} {g : Bool} {base : Option Addr} {x : Value} {du : TypeDesc} {zv : Value} {i : TypeInfo} {old new : List Value} (hs : sliceElem P t = some (elem, esz, g)) (hu : P.underlying u = some du) (hdu : ∀ k, du ≠ .int k)
    (hi : P.info? elem = some i) (hz : i.zero = some zv) (hb : i.bytes = by_) (hsm : (sLen + n) * (by_ + 1) ≤ 100000000) (hn : ∀ w, (Builtin.lenOf x).run P w = .ok n w) (hgt : sCap < sLen + n)
    (ho : (Builtin.firstCells esz sLen (.slice base sLen sCap)).run P w.drew = .ok ⟨old⟩ w.drew) (hnew : (Builtin.firstCells esz n x).run P w.drew = .ok ⟨new⟩ w.drew) :
    (Builtin.append_ ⟨[t, u]⟩ ty ⟨[.slice base sLen sCap, x]⟩).run P w =
      .ok (.slice (some ⟨w.heap.size, 0, none⟩) (sLen + n) (newCap w (sLen + n) sCap elem)) (w.drew.alloc (.cells (⟨old⟩ ++ ⟨new⟩ ++ Builtin.zeroCells zv.cells (newCap w (sLen + n) sCap elem - (sLen + n))) elem)) := by
  obtain ⟨hu', ht⟩ := sliceElem_spec hs
  obtain ⟨_, hsz, _⟩ := tyI_spec ht
  have h1 : ¬ (sLen + n ≤ sCap) := by omega
  have h2 : (sLen + n) ≤ 100000000 := Nat.le_trans (Nat.le_mul_of_pos_right _ (by omega)) hsm
  have h3 : ¬ (9223372036854775807 < ((sLen : Int) + (n : Int))) := by omega
  have h4 : ¬ (281474976710656 < Builtin.nextslicecap (sLen + n) sCap * by_) := by have := cap_small hgt hsm; omega
  cases du <;> first
    | exact absurd rfl (hdu _)
    | (simp [Builtin.append_, run_underlying hu', run_underlying hu, hsz, typeInfo, zeroValue, hi, hz, hb, hn, h1, h3, h4, Question.forced, hnew, ho, newRow, newCap, Result.andThen]; congr 2; apply Array.ext'; simp; done)
theorem append_in {t u elem esz sLen sCap n ty c off : Nat} {g : Bool} {x : Value} {du : TypeDesc} {new : List Value} {w' : World} (hs : sliceElem P t = some (elem, esz, g)) (hu : P.underlying u = some du) (hdu : ∀ k, du ≠ .int k)
    (hn : ∀ w, (Builtin.lenOf x).run P w = .ok n w) (hle : sLen + n ≤ sCap) (hnew : (Builtin.firstCells esz n x).run P w = .ok ⟨new⟩ w) (hst : (storeCells ⟨c, off + sLen * esz, none⟩ new).run P w = .ok () w') :
    (Builtin.append_ ⟨[t, u]⟩ ty ⟨[.slice (some ⟨c, off, none⟩) sLen sCap, x]⟩).run P w = .ok (.slice (some ⟨c, off, none⟩) (sLen + n) sCap) w' := by
  obtain ⟨hu', ht⟩ := sliceElem_spec hs
  obtain ⟨_, hsz, _⟩ := tyI_spec ht
  cases du <;> first
    | exact absurd rfl (hdu _)
    | (simp [Builtin.append_, run_underlying hu', run_underlying hu, hsz, hn, hle, hnew, add_none, hst, Result.andThen]; done)
theorem append_nil {t u elem esz ty : Nat} {g : Bool} {x : Value} {du : TypeDesc} (hs : sliceElem P t = some (elem, esz, g)) (hu : P.underlying u = some du) (hdu : ∀ k, du ≠ .int k)
    (hn : ∀ w, (Builtin.lenOf x).run P w = .ok 0 w) (hnew : ∃ xs, (Builtin.firstCells esz 0 x).run P w = .ok xs w) :
    (Builtin.append_ ⟨[t, u]⟩ ty ⟨[.slice none 0 0, x]⟩).run P w = .ok (.slice none 0 0) w := by
  obtain ⟨hu', ht⟩ := sliceElem_spec hs
  obtain ⟨_, hsz, _⟩ := tyI_spec ht
  obtain ⟨xs, hx⟩ := hnew
  cases du <;> first
    | exact absurd rfl (hdu _)
    | (simp [Builtin.append_, run_underlying hu', run_underlying hu, hsz, hn, hx, Result.andThen]; done)
theorem zeroOk_spec {t esz : Nat} (hz : zeroOk P t esz = true) : ∃ i zv, P.info? t = some i ∧ i.zero = some zv ∧ zv.cells.size = esz := by
  unfold zeroOk at hz
  split at hz
  · rename_i z hz'
    obtain ⟨i, zv, h1, h2, _, h4⟩ := zeroV_spec (r := ⟨fun _ => none, fun _ => 0⟩) hz'
    exact ⟨i, zv, h1, h2, by have := Nat.eq_of_beq_eq_true hz; rw [← this, h4.length]; simp⟩
  · cases hz
theorem fresh_ok (hr : HR P w0 r h w) {elem esz need : Nat} {vs : List V} {xs : Array Value} {zv : Value} {cp : Nat} (hv : VRs r vs xs.toList) (hz : zv.cells.size = esz) (hc : P.cellsOf elem = esz) (hlen : vs.length = need * esz) (hle : need ≤ cp)
    (hk : freshK h elem vs need kv = some res) :
    ∃ v h' r', HR P w0 r' h' (w.drew.alloc (.cells (xs ++ Builtin.zeroCells zv.cells (cp - need)) elem)) ∧ r.le r' ∧ VR r' v (.slice (some ⟨w.heap.size, 0, none⟩) need cp) ∧ kv v h' = some res := by
  unfold freshK at hk
  have hs : xs.size = need * esz := by rw [← hlen, hv.length]; simp
  have htot : (xs ++ Builtin.zeroCells zv.cells (cp - need)).size = cp * esz := by
    simp only [Array.size_append, Builtin.zeroCells, Array.size_map, Array.size_range, hs, hz]
    rw [← Nat.add_mul]; congr 1; omega
  obtain ⟨h', r', h1, h2, h3, h4, h5⟩ := newK_ok (xs := xs ++ Builtin.zeroCells zv.cells (cp - need)) (kcap := cp) (fz := (0, 0)) hr.drew hv (fun i x hx => by
      have hi : i < xs.size := by simpa using (List.getElem?_eq_some_iff.1 hx).1
      rw [Array.getElem?_append_left hi]; simpa using hx) (by rw [htot, hlen]; exact Nat.mul_le_mul_right _ hle) (no_fz _) (fun _ => by rw [htot, hc]) hk
  rw [natK_eq] at h5
  exact ⟨_, h', r', h1, h2, .slu _ 0 _ 0 _ _ h3 (by rw [h4]; rfl), h5⟩
theorem ones_mono {l m : List V} (h : ones (l ++ m) = true) : ones m = true := by
  induction l with
  | nil => exact h
  | cons a l ih => simp only [List.cons_append, ones, Bool.and_eq_true] at h; exact ih h.2
/-- A slice that may have room behind it: written on where it lies, or copied. -/
theorem grow_ok (hr : HR P w0 r h w) {t u elem esz by_ len n ty b c cp size : Nat} {g : Bool} {z : List V} {tt : T V} {x : Value} {du : TypeDesc} {i : TypeInfo} {zv : Value} {old new : List V} {xo xn : List Value}
    (hs : sliceElem P t = some (elem, esz, g)) (hu : P.underlying u = some du) (hdu : ∀ k, du ≠ .int k) (hi : P.info? elem = some i) (hz : i.zero = some zv) (hb : i.bytes = by_) (hzs : zv.cells.size = esz)
    (hsm : (len + n) * (by_ + 1) ≤ 100000000) (hn : ∀ w, (Builtin.lenOf x).run P w = .ok n w) (hbk : h.t.get b = some (.cells elem true true size z tt)) (hc : r.at_ b = some c) (hcap : cp + 0 = r.cap b)
    (hvo : VRs r old xo) (hlo : old.length = len * esz) (hro : ∀ d : World, d.heap = w.heap → (Builtin.firstCells esz len (.slice (some ⟨c, 0, none⟩) len cp)).run P d = .ok ⟨xo⟩ d)
    (hvn : VRs r new xn) (hln : new.length = n * esz) (hrn : ∀ d : World, d.heap = w.heap → (Builtin.firstCells esz n x).run P d = .ok ⟨xn⟩ d) (hones : ones new = true)
    (hok : ∀ (i : Nat) (v : V), old[i]? = some v → cellAt tt size z i = some v)
    (hk : growK h b elem (old ++ new) (len + n) kv = some res) :
    ValOut P w0 r w (Builtin.append_ ⟨[t, u]⟩ ty ⟨[.slice (some ⟨c, 0, none⟩) len cp, x]⟩) kv res := by
  have hcell : P.cellsOf elem = esz := (tyI_spec (sliceElem_spec hs).2).2.2
  have hlen : (old ++ new).length = (len + n) * esz := by simp [hlo, hln, Nat.add_mul]
  unfold growK at hk
  rw [T.setK_eq] at hk
  by_cases hle : len + n ≤ cp
  · -- there was room
    obtain ⟨cs, fz, g0, g1, g2, g3, g4⟩ := hr.cells hbk hc
    have hsz : cs.size = cp * esz := by rw [g4 rfl, hcell, ← hcap]; simp
    have hroom : 0 + 0 + len * esz + xn.length ≤ cs.size := by
      rw [← hvn.length, hln, hsz]
      have := Nat.mul_le_mul_right esz hle
      rw [Nat.add_mul] at this; omega
    obtain ⟨cs', w', hrun, g0', hs', hupd, hg⟩ := run_storeCells P c (len * esz) elem fz xn 0 cs w g0 (by omega) (g1 rfl) (ones_spec hones hvn)
    unfold newK at hk
    rw [setsK_eq, natK_eq, natK_eq, T.setK_eq] at hk
    dsimp only at hk
    rw [natK_eq] at hk
    have hle2 := Ren.ext_le (c := c) (k := cp) hr.none_nx
    obtain ⟨h1, h2⟩ := hr.rename (o' := .cells elem true true (old ++ new).length [] (sets (old ++ new) .e 0)) (k := cp) hbk rfl rfl hc hupd ⟨cs', fz, g0', fun _ => by rw [hs']; exact g1 rfl, fun i v hv => by
        have hv' := cellAt_new _ hv
        rw [hg i]
        by_cases hi : i < old.length
        · rw [List.getElem?_append_left hi] at hv'
          obtain ⟨q, hq, hvr⟩ := g2 i v (hok i v hv')
          exact ⟨q, by rw [if_neg (by omega)]; exact hq, hvr.mono hle2⟩
        · rw [List.getElem?_append_right (by omega)] at hv'
          obtain ⟨q, hq, hvr⟩ := hvn.get hv'
          have hlt := (List.getElem?_eq_some_iff.1 hq).1
          exact ⟨q, by rw [if_pos (by omega)]; rw [← hq]; congr 1; omega, hvr.mono hle2⟩, by
        rw [hs', hsz, hlen]; exact Nat.mul_le_mul_right _ hle, fun _ => by rw [hs', hsz, Ren.ext_cap, hcell]⟩
    refine ⟨_, _, _, _, w', h1, h2, .slu h.nx 0 _ 0 c cp (Ren.ext_at ..) (by rw [Ren.ext_cap]; rfl), ?_, hk⟩
    exact append_in (off := 0) hs hu hdu hn hle (hrn w rfl) (by rw [Nat.zero_add]; exact hrun)
  · obtain ⟨v, h', r', h1, h2, h3, h4⟩ := fresh_ok (hr.kill b hc) (xs := ⟨xo⟩ ++ ⟨xn⟩) (zv := zv) (cp := newCap w (len + n) cp elem) (by simpa using hvo.append hvn) hzs hcell hlen (newCap_le ..) hk
    exact ⟨v, h', r', _, _, h1, h2, h3, append_new hs hu hdu hi hz hb hsm hn (by omega) (hro _ rfl) (hrn _ rfl), h4⟩
end ops
end
end Go.Ev
