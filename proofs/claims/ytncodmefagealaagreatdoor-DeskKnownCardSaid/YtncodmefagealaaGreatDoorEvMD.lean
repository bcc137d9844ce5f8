/- Contracts of functions of the program, walked, and plain laws. -/
import Derived.Test.YtncodmefagealaaGreatDoorEvMC
import Derived.Test.YtncodmefagealaaGreatDoorEvMA
import Derived.KernelRfl
/- The step machine: appends, copies, texts as bytes. -/
namespace Go.Ev
open Go Go.RowKit
noncomputable section
section ops
variable {P : Program} {w0 : Base} {w : World} {r : Ren} {h : H} {tm : Nat → Option V} {ρ : Operand → Value}
variable {β : Type} {kv : V → H → Option β} {res : β}

theorem elemsOf_ok (hr : HR P w0 r h w) {esz n : Nat} {x : V} {y : Value} {l : List V} (hx : VR r x y) (he : elemsOf h esz x = some (l, n)) :
    (∀ w, (Builtin.lenOf y).run P w = .ok n w) ∧ l.length = n * esz ∧ ∀ k, k ≤ n → ∃ xs : List Value, VRs r (l.take (k * esz)) xs ∧ ∀ d : World, d.heap = w.heap → (Builtin.firstCells esz k y).run P d = .ok ⟨xs⟩ d := by
  unfold elemsOf at he
  split at he
  · cases he
    rw [hx.nils_inv]
    exact ⟨fun _ => rfl, by simp, fun k hk => ⟨[], by simp; exact .nil, fun _ _ => rfl⟩⟩
  · cases he
    obtain ⟨_, m, a, rfl, _⟩ := hx.emp_inv
    refine ⟨fun _ => rfl, by simp, fun k hk => ?_⟩
    obtain rfl : k = 0 := by omega
    exact ⟨[], by simp; exact .nil, fun d _ => by simp [Builtin.firstCells, loadCells, loadCellsFrom]⟩
  · rename_i b off m cap
    split at he
    · rename_i l' hl
      cases he
      obtain ⟨c, cp, rfl, hc, _⟩ := hx.sl_inv
      refine ⟨fun _ => rfl, (loadN_ok hr hc hl).choose_spec.2.1, fun k hk => ?_⟩
      obtain ⟨xs, h1, _, h3⟩ := loadN_take hr hc hl (Nat.mul_le_mul_right esz hk)
      exact ⟨xs, h1, fun d hd => by simpa [Builtin.firstCells] using h3 d hd⟩
    · cases he
  · split at he
    · cases he
      obtain ⟨q, rfl, hq⟩ := hx.str_inv
      refine ⟨fun w => by rw [← hq, size_data]; rfl, by simp, fun k hk => ?_⟩
      have hk' : k ≤ q.size := by rw [← hq, size_data] at hk; exact hk
      refine ⟨((q.extract 0 k).data.map fun b => Value.int .u8 b.toNat).toList, ?_, fun _ _ => rfl⟩
      rw [Array.toList_map, ByteArray.data_extract, Array.toList_extract]
      simp only [List.extract, List.drop_zero, Nat.sub_zero, Nat.mul_one]
      rw [← hq, ← List.map_take, ← List.map_take, List.map_map]
      generalize List.take k q.data.toList = z
      induction z with
      | nil => exact .nil
      | cons a z ih => exact .cons _ _ _ _ (.int .u8 _) ih
    · cases he
  · cases he
theorem growBy_le (need : Nat) : ∀ (n c : Nat), Builtin.growBy need n c ≤ max c (need + (need + 768) / 4)
  | 0, c => by simp [Builtin.growBy]; omega
  | n + 1, c => by
    simp only [Builtin.growBy]
    split
    · omega
    · have := growBy_le need n (c + (c + 768) / 4)
      omega
theorem cap_bound (need c : Nat) (h : c < need) : Builtin.nextslicecap need c ≤ 2 * need + 1024 := by
  unfold Builtin.nextslicecap
  split
  · omega
  · split
    · omega
    · have := growBy_le need 4 c; omega
theorem cap_small {need c by_ : Nat} (h : c < need) (hs : need * (by_ + 1) ≤ 100000000) : ¬ (Builtin.nextslicecap need c * by_ > 2 ^ 48) := by
  have h1 := cap_bound need c h
  have h2 : need ≤ 100000000 := Nat.le_trans (Nat.le_mul_of_pos_right need (by omega)) hs
  have h3 : by_ + 1 ≤ 100000000 := Nat.le_trans (Nat.le_mul_of_pos_left (by_ + 1) (by omega)) hs
  have h4 : Builtin.nextslicecap need c * by_ ≤ (2 * need + 1024) * by_ := Nat.mul_le_mul_right _ h1
  have h5 : (2 * need + 1024) * by_ = 2 * (need * by_) + 1024 * by_ := by rw [Nat.add_mul, Nat.mul_assoc]
  have h6 : need * by_ ≤ need * (by_ + 1) := Nat.mul_le_mul_left _ (by omega)
  omega
def newCap (w : World) (need old e : Nat) : Nat := (Question.appendCap need old e).cut (w.tape w.drawn (.appendCap need old e))
theorem newCap_le (w : World) (need old e : Nat) : need ≤ newCap w need old e := by simp [newCap, Question.cut]
theorem isInt_false {d : TypeDesc} (hd : ∀ k, d ≠ .int k) : (match d with | .int _ => true | _ => false) = false := by cases d <;> first | rfl | exact absurd rfl (hd _)
set_option maxHeartbeats 1600000 in
/-- An append's new row. -/
theorem append_new {t u elem esz by_ sLen sCap n ty : Nat} {g : Bool} {base : Option Addr} {x : Value} {du : TypeDesc} {zv : Value} {i : TypeInfo} {old new : List Value} (hs : sliceElem P t = some (elem, esz, g)) (hu : P.underlying u = some du) (hdu : ∀ k, du ≠ .int k)
    (hi : P.info? elem = some i) (hz : i.zero = some zv) (hb : i.bytes = by_) (hsm : (sLen + n) * (by_ + 1) ≤ 100000000) (hn : ∀ w, (Builtin.lenOf x).run P w = .ok n w) (hgt : sCap < sLen + n)
    (ho : (Builtin.firstCells esz sLen (.slice base sLen sCap)).run P w.drew = .ok ⟨old⟩ w.drew) (hnew : (Builtin.firstCells esz n x).run P w.drew = .ok ⟨new⟩ w.drew) :
    (Builtin.append_ ⟨[t, u]⟩ ty ⟨[.slice base sLen sCap, x]⟩).run P w =
      .ok (.slice (some ⟨w.heap.size, 0, none⟩) (sLen + n) (newCap w (sLen + n) sCap elem)) (w.drew.alloc (.cells (⟨old⟩ ++ ⟨new⟩ ++ Builtin.zeroCells zv.cells (newCap w (sLen + n) sCap elem - (sLen + n))) elem)) := by
  obtain ⟨hu', ht⟩ := sliceElem_spec hs
  obtain ⟨_, hsz, _⟩ := tyI_spec ht
  have h1 : ¬ (sLen + n ≤ sCap) := by omega
  have h2 : (sLen + n) ≤ 100000000 := Nat.le_trans (Nat.le_mul_of_pos_right _ (by omega)) hsm
  have h3 : ¬ (9223372036854775807 < ((sLen : Int) + (n : Int))) := by omega
  have h4 : ¬ (281474976710656 < Builtin.nextslicecap (sLen + n) sCap * by_) := by have := cap_small hgt hsm; omega
  cases du <;> first
    | exact absurd rfl (hdu _)
    | (simp [Builtin.append_, run_underlying hu', run_underlying hu, hsz, typeInfo, zeroValue, hi, hz, hb, hn, h1, h3, h4, Question.forced, hnew, ho, newRow, newCap, Result.andThen]; congr 2; apply Array.ext'; simp; done)
theorem append_in {t u elem esz sLen sCap n ty c off : Nat} {g : Bool} {x : Value} {du : TypeDesc} {new : List Value} {w' : World} (hs : sliceElem P t = some (elem, esz, g)) (hu : P.underlying u = some du) (hdu : ∀ k, du ≠ .int k)
    (hn : ∀ w, (Builtin.lenOf x).run P w = .ok n w) (hle : sLen + n ≤ sCap) (hnew : (Builtin.firstCells esz n x).run P w = .ok ⟨new⟩ w) (hst : (storeCells ⟨c, off + sLen * esz, none⟩ new).run P w = .ok () w') :
    (Builtin.append_ ⟨[t, u]⟩ ty ⟨[.slice (some ⟨c, off, none⟩) sLen sCap, x]⟩).run P w = .ok (.slice (some ⟨c, off, none⟩) (sLen + n) sCap) w' := by
  obtain ⟨hu', ht⟩ := sliceElem_spec hs
  obtain ⟨_, hsz, _⟩ := tyI_spec ht
  cases du <;> first
    | exact absurd rfl (hdu _)
    | (simp [Builtin.append_, run_underlying hu', run_underlying hu, hsz, hn, hle, hnew, add_none, hst, Result.andThen]; done)
theorem append_nil {t u elem esz ty : Nat} {g : Bool} {x : Value} {du : TypeDesc} (hs : sliceElem P t = some (elem, esz, g)) (hu : P.underlying u = some du) (hdu : ∀ k, du ≠ .int k)
    (hn : ∀ w, (Builtin.lenOf x).run P w = .ok 0 w) (hnew : ∃ xs, (Builtin.firstCells esz 0 x).run P w = .ok xs w) :
    (Builtin.append_ ⟨[t, u]⟩ ty ⟨[.slice none 0 0, x]⟩).run P w = .ok (.slice none 0 0) w := by
  obtain ⟨hu', ht⟩ := sliceElem_spec hs
  obtain ⟨_, hsz, _⟩ := tyI_spec ht
  obtain ⟨xs, hx⟩ := hnew
  cases du <;> first
    | exact absurd rfl (hdu _)
    | (simp [Builtin.append_, run_underlying hu', run_underlying hu, hsz, hn, hx, Result.andThen]; done)
theorem zeroOk_spec {t esz : Nat} (hz : zeroOk P t esz = true) : ∃ i zv, P.info? t = some i ∧ i.zero = some zv ∧ zv.cells.size = esz := by
  unfold zeroOk at hz
  split at hz
  · rename_i z hz'
    obtain ⟨i, zv, h1, h2, _, h4⟩ := zeroV_spec (r := ⟨fun _ => none, fun _ => 0, fun _ => 0⟩) hz'
    exact ⟨i, zv, h1, h2, by have := Nat.eq_of_beq_eq_true hz; rw [← this, h4.length]; simp⟩
  · cases hz
theorem fresh_ok (hr : HR P w0 r h w) {elem esz need : Nat} {vs : List V} {xs : Array Value} {zv : Value} {cp : Nat} (hv : VRs r vs xs.toList) (hz : zv.cells.size = esz) (hc : P.cellsOf elem = esz) (hlen : vs.length = need * esz) (hle : need ≤ cp)
    (hk : freshK h elem vs need kv = some res) :
    ∃ v h' r', HR P w0 r' h' (w.drew.alloc (.cells (xs ++ Builtin.zeroCells zv.cells (cp - need)) elem)) ∧ r.le r' ∧ VR r' v (.slice (some ⟨w.heap.size, 0, none⟩) need cp) ∧ kv v h' = some res := by
  unfold freshK at hk
  have hs : xs.size = need * esz := by rw [← hlen, hv.length]; simp
  have htot : (xs ++ Builtin.zeroCells zv.cells (cp - need)).size = cp * esz := by
    simp only [Array.size_append, Builtin.zeroCells, Array.size_map, Array.size_range, hs, hz]
    rw [← Nat.add_mul]; congr 1; omega
  obtain ⟨h', r', h1, h2, h3, h4, h3', h5⟩ := newK_ok (xs := xs ++ Builtin.zeroCells zv.cells (cp - need)) (kcap := cp) (fz := (0, 0)) hr.drew hv (fun i x hx => by
      have hi : i < xs.size := by simpa using (List.getElem?_eq_some_iff.1 hx).1
      rw [Array.getElem?_append_left hi]; simpa using hx) (by rw [htot, hlen]; exact Nat.mul_le_mul_right _ hle) (no_fz _) (fun _ => by rw [htot, hc]) (fun h => by cases h) hk
  rw [natK_eq] at h5
  exact ⟨_, h', r', h1, h2, .slu _ 0 _ 0 _ _ 0 h3 (by rw [h4]; rfl) h3', h5⟩
theorem ones_mono {l m : List V} (h : ones (l ++ m) = true) : ones m = true := by
  induction l with
  | nil => exact h
  | cons a l ih => simp only [List.cons_append, ones, Bool.and_eq_true] at h; exact ih h.2
/-- A slice that may have room behind it: written on where it lies, or copied. Its first cell is the block's cell s. -/
theorem growS_ok (hr : HR P w0 r h w) {t u elem esz by_ len n ty b c cp size s : Nat} {g : Bool} {z z' : List V} {tt tt' : T V} {x : Value} {du : TypeDesc} {i : TypeInfo} {zv : Value} {new : List V} {xn : List Value} {a : Addr} {cs : Array Value} {fz : Nat × Nat}
    (hs : sliceElem P t = some (elem, esz, g)) (hu : P.underlying u = some du) (hdu : ∀ k, du ≠ .int k) (hi : P.info? elem = some i) (hz : i.zero = some zv) (hb : i.bytes = by_) (hzs : zv.cells.size = esz)
    (hsm : (len + n) * (by_ + 1) ≤ 100000000) (hn : ∀ w, (Builtin.lenOf x).run P w = .ok n w) (hbk : h.t.get b = some (.cells elem true true size z tt)) (hc : r.at_ b = some c)
    (g0 : w.heap[c]? = some (.cells cs elem fz)) (g1 : ∀ i, i < cs.size → ¬ (fz.1 ≤ i ∧ i < fz.2)) (hsz : cs.size = s + cp * esz) (ha : 0 < cp ∨ 0 < len ∨ n = 0 → a = ⟨c, s, none⟩) (hle0 : s + len * esz ≤ cs.size)
    (hvn : VRs r new xn) (hln : new.length = n * esz) (hrn : ∀ d : World, d.heap = w.heap → (Builtin.firstCells esz n x).run P d = .ok ⟨xn⟩ d) (hones : ones new = true)
    (hok : ∀ (i : Nat) (v : V), cellAt tt' ((len + n) * esz) z' i = some v → (i < len * esz ∧ ∃ q, cs[s + i]? = some q ∧ VR r v q) ∨ (len * esz ≤ i ∧ new[i - len * esz]? = some v))
    (hk : kv (.sl h.nx 0 (len + n) (.upto 0)) ⟨(h.t.set b .dead).set h.nx (.cells elem true true ((len + n) * esz) z' tt'), h.nx + 1⟩ = some res) :
    ValOut P w0 r w (Builtin.append_ ⟨[t, u]⟩ ty ⟨[.slice (some a) len cp, x]⟩) kv res := by
  have hcell : P.cellsOf elem = esz := (tyI_spec (sliceElem_spec hs).2).2.2
  have hxn : xn.length = n * esz := by rw [← hvn.length, hln]
  by_cases hle : len + n ≤ cp
  · obtain rfl : a = ⟨c, s, none⟩ := ha (by omega)
    have hroom : s + len * esz + xn.length ≤ cs.size := by
      rw [hxn, hsz, Nat.add_assoc, ← Nat.add_mul]
      exact Nat.add_le_add_left (Nat.mul_le_mul_right esz hle) s
    obtain ⟨cs', w', hrun, g0', hs', hupd, hg⟩ := run_storeCells P c (s + len * esz) elem fz xn 0 cs w g0 (by omega) g1 (ones_spec hones hvn)
    have hle2 := Ren.exts_le (c := c) (k := cp) (s := s) hr.none_nx
    obtain ⟨h1, h2⟩ := hr.rename (o' := .cells elem true true ((len + n) * esz) z' tt') (k := cp) (sh := s) hbk rfl rfl hc hupd ⟨cs', fz, g0', fun _ => by rw [hs']; exact g1, fun i v hv => by
        rw [Ren.exts_sh, hg (s + i)]
        have hlt0 := cellAt_lt hv
        rw [Nat.add_mul] at hlt0
        rcases hok i v hv with ⟨hi, q, hq, hvr⟩ | ⟨hi, hv⟩
        · exact ⟨q, by rw [if_neg (by omega)]; exact hq, hvr.mono hle2⟩
        · obtain ⟨q, hq, hvr⟩ := hvn.get hv
          have hlt := (List.getElem?_eq_some_iff.1 hq).1
          exact ⟨q, by rw [if_pos (by omega)]; rw [← hq]; congr 1; omega, hvr.mono hle2⟩, by
        rw [hs', hsz, Ren.exts_sh]; exact Nat.add_le_add_left (Nat.mul_le_mul_right _ hle) s, fun _ => by rw [hs', hsz, Ren.exts_cap, Ren.exts_sh, hcell], fun h => by cases h⟩
    refine ⟨_, _, _, _, w', h1, h2, .slu h.nx 0 _ 0 c cp s (Ren.exts_at ..) (by rw [Ren.exts_cap]; rfl) (by rw [Ren.exts_sh]; rfl), ?_, hk⟩
    exact append_in (off := s) hs hu hdu hn hle (hrn w rfl) hrun
  · let xo : List Value := (List.range (len * esz)).map fun j => (cs[s + j]?).getD undef
    have hxo : xo.length = len * esz := by simp [xo]
    have hget : ∀ j, j < len * esz → ∀ q, cs[s + j]? = some q → xo[j]? = some q := fun j hj q hq => by simp [xo, hj, hq]
    have hro : ∀ d : World, d.heap = w.heap → (Builtin.firstCells esz len (.slice (some a) len cp)).run P d = .ok ⟨xo⟩ d := fun d hd => by
      by_cases h0 : 0 < len
      · obtain rfl : a = ⟨c, s, none⟩ := ha (.inr (.inl h0))
        have := run_loadCells (P := P) d ⟨c, s, none⟩ (len * esz) (fun j => (cs[s + j]?).getD undef) fun j hj => by
          have hj' : s + j < cs.size := by omega
          rw [add_none]
          simp [World.cell?, hd, g0, hj']
        simpa [Builtin.firstCells, xo] using this
      · obtain rfl : len = 0 := by omega
        simp [Builtin.firstCells, loadCells, loadCellsFrom, xo]
    have hle2 := Ren.ext_le (c := w.heap.size) (k := newCap w (len + n) cp elem) hr.none_nx
    have htot : ((⟨xo⟩ : Array Value) ++ ⟨xn⟩ ++ Builtin.zeroCells zv.cells (newCap w (len + n) cp elem - (len + n))).size = newCap w (len + n) cp elem * esz := by
      have hnc := newCap_le w (len + n) cp elem
      simp only [Array.size_append, Builtin.zeroCells, Array.size_map, Array.size_range, hzs, List.size_toArray, hxo, hxn]
      rw [← Nat.add_mul, ← Nat.add_mul]; congr 1; omega
    have hnew := (hr.kill b hc).drew.new (.cells (⟨xo⟩ ++ ⟨xn⟩ ++ Builtin.zeroCells zv.cells (newCap w (len + n) cp elem - (len + n))) elem) (.cells elem true true ((len + n) * esz) z' tt') (newCap w (len + n) cp elem)
      ⟨_, (0, 0), rfl, fun _ => no_fz _, fun i v hv => by
        have hlt0 := cellAt_lt hv
        rw [Nat.add_mul] at hlt0
        rw [Ren.ext_sh, Nat.zero_add]
        rcases hok i v hv with ⟨hi, q, hq, hvr⟩ | ⟨hi, hv⟩
        · refine ⟨q, ?_, hvr.mono hle2⟩
          rw [Array.getElem?_append_left (by simp [hxo]; omega), Array.getElem?_append_left (by simp [hxo]; omega)]
          simpa using hget i (by omega) q hq
        · obtain ⟨q, hq, hvr⟩ := hvn.get hv
          have hlt := (List.getElem?_eq_some_iff.1 hq).1
          refine ⟨q, ?_, hvr.mono hle2⟩
          rw [Array.getElem?_append_left (by simp [hxo]; omega), Array.getElem?_append_right (by simp [hxo]; omega)]
          simp only [List.size_toArray, hxo, List.getElem?_toArray]
          rw [← hq], by rw [htot, Ren.ext_sh, Nat.zero_add]; exact Nat.mul_le_mul_right _ (newCap_le ..), fun _ => by
        have hnx : (⟨h.t.set b .dead, h.nx⟩ : H).nx = h.nx := rfl
        rw [htot, hcell, Ren.ext_sh, Nat.zero_add]; exact congrArg (· * esz) (Ren.ext_cap ..).symm, fun h => by cases h⟩
    obtain ⟨h1, h2⟩ := hnew
    exact ⟨_, _, _, _, _, h1, h2, .slu h.nx 0 _ 0 w.heap.size _ 0 (Ren.ext_at ..) (by rw [Ren.ext_cap]; rfl) (by rw [Ren.ext_sh]), append_new hs hu hdu hi hz hb hsm hn (by omega) (hro _ rfl) (hrn _ rfl), hk⟩
theorem grow_ok (hr : HR P w0 r h w) {t u elem esz by_ len n ty b c cp size off : Nat} {g : Bool} {z : List V} {tt : T V} {x : Value} {du : TypeDesc} {i : TypeInfo} {zv : Value} {old new : List V} {xn : List Value} {a : Addr} {cs : Array Value} {fz : Nat × Nat}
    (hs : sliceElem P t = some (elem, esz, g)) (hu : P.underlying u = some du) (hdu : ∀ k, du ≠ .int k) (hi : P.info? elem = some i) (hz : i.zero = some zv) (hb : i.bytes = by_) (hzs : zv.cells.size = esz)
    (hsm : (len + n) * (by_ + 1) ≤ 100000000) (hn : ∀ w, (Builtin.lenOf x).run P w = .ok n w) (hbk : h.t.get b = some (.cells elem true true size z tt)) (hc : r.at_ b = some c)
    (g0 : w.heap[c]? = some (.cells cs elem fz)) (g1 : ∀ i, i < cs.size → ¬ (fz.1 ≤ i ∧ i < fz.2)) (g2 : ∀ i v, cellAt tt size z i = some v → ∃ x, cs[r.sh b + i]? = some x ∧ VR r v x)
    (hsz : cs.size = r.sh b + off + cp * esz) (ha : 0 < cp ∨ 0 < len ∨ n = 0 → a = ⟨c, r.sh b + off, none⟩) (hle0 : r.sh b + off + len * esz ≤ cs.size)
    (hlo : old.length = len * esz) (hvn : VRs r new xn) (hln : new.length = n * esz) (hrn : ∀ d : World, d.heap = w.heap → (Builtin.firstCells esz n x).run P d = .ok ⟨xn⟩ d) (hones : ones new = true)
    (hok : ∀ (i : Nat) (v : V), old[i]? = some v → cellAt tt size z (off + i) = some v)
    (hk : growK h b elem (old ++ new) (len + n) kv = some res) :
    ValOut P w0 r w (Builtin.append_ ⟨[t, u]⟩ ty ⟨[.slice (some a) len cp, x]⟩) kv res := by
  have hlen : (old ++ new).length = (len + n) * esz := by simp [hlo, hln, Nat.add_mul]
  unfold growK at hk
  rw [T.setK_eq] at hk
  unfold newK at hk
  rw [setsK_eq, natK_eq, natK_eq, T.setK_eq] at hk
  dsimp only at hk
  rw [natK_eq, hlen] at hk
  refine growS_ok hr hs hu hdu hi hz hb hzs hsm hn hbk hc g0 g1 hsz ha hle0 hvn hln hrn hones (fun i v hv => ?_) hk
  rw [← hlen] at hv
  have hv' := cellAt_new _ hv
  by_cases hi : i < old.length
  · rw [List.getElem?_append_left hi] at hv'
    obtain ⟨q, hq, hvr⟩ := g2 _ v (hok i v hv')
    exact .inl ⟨by omega, q, by rw [Nat.add_assoc]; exact hq, hvr⟩
  · rw [List.getElem?_append_right (by omega), hlo] at hv'
    exact .inr ⟨by omega, hv'⟩
/-- Likewise where the slice is all of the known block: nothing of what it holds need be known. -/
theorem grow2_ok (hr : HR P w0 r h w) {t u elem esz by_ len n ty b c cp size : Nat} {g : Bool} {z : List V} {tt : T V} {x : Value} {du : TypeDesc} {i : TypeInfo} {zv : Value} {new : List V} {xn : List Value} {a : Addr} {cs : Array Value} {fz : Nat × Nat}
    (hs : sliceElem P t = some (elem, esz, g)) (hu : P.underlying u = some du) (hdu : ∀ k, du ≠ .int k) (hi : P.info? elem = some i) (hz : i.zero = some zv) (hb : i.bytes = by_) (hzs : zv.cells.size = esz)
    (hsm : (len + n) * (by_ + 1) ≤ 100000000) (hn : ∀ w, (Builtin.lenOf x).run P w = .ok n w) (hbk : h.t.get b = some (.cells elem true true size z tt)) (hc : r.at_ b = some c)
    (g0 : w.heap[c]? = some (.cells cs elem fz)) (g1 : ∀ i, i < cs.size → ¬ (fz.1 ≤ i ∧ i < fz.2)) (g2 : ∀ i v, cellAt tt size z i = some v → ∃ x, cs[r.sh b + i]? = some x ∧ VR r v x)
    (hsz : cs.size = r.sh b + cp * esz) (ha : 0 < cp ∨ 0 < len ∨ n = 0 → a = ⟨c, r.sh b, none⟩) (hle0 : r.sh b + len * esz ≤ cs.size)
    (hsize : size = len * esz)
    (hvn : VRs r new xn) (hln : new.length = n * esz) (hrn : ∀ d : World, d.heap = w.heap → (Builtin.firstCells esz n x).run P d = .ok ⟨xn⟩ d) (hones : ones new = true)
    (hk : grow2K h b elem esz len z tt new n kv = some res) :
    ValOut P w0 r w (Builtin.append_ ⟨[t, u]⟩ ty ⟨[.slice (some a) len cp, x]⟩) kv res := by
  have hlen : (len + n) * esz = size + new.length := by rw [hsize, hln, Nat.add_mul]
  unfold grow2K at hk
  rw [T.setK_eq, natK_eq, setsK_eq, natK_eq, natK_eq, T.setK_eq, natK_eq] at hk
  have hk : kv (.sl h.nx 0 (len + n) (.upto 0)) ⟨(h.t.set b .dead).set h.nx (.cells elem true true ((len + n) * esz) z (sets new tt (len * esz))), h.nx + 1⟩ = some res := hk
  refine growS_ok hr hs hu hdu hi hz hb hzs hsm hn hbk hc g0 g1 hsz ha hle0 hvn hln hrn hones (fun i v hv => ?_) hk
  rw [hlen, ← hsize] at hv
  rcases cellAt_grow hv with ⟨hi, hv⟩ | ⟨hi, hv⟩
  · obtain ⟨q, hq, hvr⟩ := g2 i v hv
    exact .inl ⟨by omega, q, hq, hvr⟩
  · exact .inr ⟨by omega, by rw [← hsize]; exact hv⟩
end ops
end
end Go.Ev
/- The step machine: appends, copies, texts as bytes, put together. -/
namespace Go.Ev
open Go Go.RowKit
noncomputable section
section ops
variable {P : Program} {w0 : Base} {w : World} {r : Ren} {h : H} {tm : Nat → Option V} {ρ : Operand → Value}
variable {β : Type} {kv : V → H → Option β} {res : β}

theorem appendK_ok (hr : HR P w0 r h w) {t u ty : Nat} {s x : V} {S X : Value} {du : TypeDesc} (hs : VR r s S) (hx : VR r x X) (hu : P.underlying u = some du) (hdu : ∀ k, du ≠ .int k) (hk : appendK P h t s x none kv = some res) :
    ValOut P w0 r w (Builtin.append_ ⟨[t, u]⟩ ty ⟨[S, X]⟩) kv res := by
  unfold appendK at hk
  split at hk
  · cases hk
  rename_i elem esz g hse
  split at hk
  · cases hk
  rename_i by_ hby
  split at hk
  · cases hk
  rename_i hzk
  split at hk
  · cases hk
  rename_i new n hel
  simp only [Bool.and_eq_true] at hzk
  obtain ⟨i, zv, hi, hz, hzs⟩ := zeroOk_spec hzk.1
  have hpos : 1 ≤ esz := Nat.le_of_ble_eq_true hzk.2
  obtain ⟨i', hi', hb⟩ := bytesT_spec hby
  obtain rfl : i' = i := by rw [hi] at hi'; exact (Option.some.inj hi').symm
  have hcell : P.cellsOf elem = esz := (tyI_spec (sliceElem_spec hse).2).2.2
  obtain ⟨hlen, hnl, hfc⟩ := elemsOf_ok (P := P) hr hx hel
  obtain ⟨xn, hvn, hrn⟩ := hfc n (Nat.le_refl _)
  rw [← hnl, List.take_length] at hvn
  split at hk
  · -- nil
    rw [hs.nils_inv]
    split at hk
    · exact ⟨.nils, h, r, _, w, hr, r.le_refl, .nils, append_nil hse hu hdu hlen ⟨_, hrn w rfl⟩, hk⟩
    · split at hk
      · cases hk
      rename_i m _ hsm
      rw [nfsK_eq] at hk
      have hsm := small_spec hsm
      have hsm' : (0 + (m + 1)) * (by_ + 1) ≤ 100000000 := by rw [Nat.zero_add]; exact hsm
      obtain ⟨v, h', r', h1, h2, h3, h4⟩ := fresh_ok hr (xs := ⟨xn⟩) (zv := zv) (cp := newCap w (0 + (m + 1)) 0 elem) hvn hzs hcell hnl (by have := newCap_le w (0 + (m + 1)) 0 elem; omega) hk
      have hrun := append_new (w := w) (ty := ty) (base := none) (sLen := 0) (sCap := 0) (old := []) hse hu hdu hi hz hb hsm' hlen (by omega) (by simp [Builtin.firstCells]) (hrn _ rfl)
      refine ⟨v, h', r', _, _, h1, h2, h3, ?_, h4⟩
      rw [hrun]
      simp
  · -- a slice
    rename_i b off len cap
    split at hk
    · cases hk
    rename_i hsm
    have hsm := small_spec hsm
    obtain ⟨c, cp, rfl, hc, hcap⟩ := hs.sl_inv
    split at hk
    · -- its room is known
      rename_i cc
      obtain rfl : cp = cc := hcap
      split at hk
      · rename_i hle
        have hle := Nat.le_of_ble_eq_true hle
        rw [nfsK_eq] at hk
        obtain ⟨h', w', h1, h2, h3, _⟩ := storeK_ok hr hc hvn hk
        rw [natK_eq] at h3
        exact ⟨_, h', r, _, w', h1, r.le_refl, .slx _ _ _ _ _ _ hc rfl, append_in hse hu hdu hlen hle (hrn w rfl) (by rw [Nat.add_assoc]; exact h2), h3⟩
      · rename_i hle
        split at hk
        · cases hk
        rename_i old hold
        rw [nfsK_eq] at hk
        have hgt : cp < len + n := by
          have : ¬ (len + n ≤ cp) := fun hh => by have this : Nat.ble (Nat.add len n) cp = true := Nat.ble_eq_true_of_le hh; rw [hle] at this; cases this
          omega
        obtain ⟨xo, hvo, hlo, hro⟩ := loadN_all (P := P) hr hc hold
        obtain ⟨v, h', r', h1, h2, h3, h4⟩ := fresh_ok hr (xs := ⟨xo⟩ ++ ⟨xn⟩) (zv := zv) (cp := newCap w (len + n) cp elem) (by simpa using hvo.append hvn) hzs hcell (by simp [hlo, hnl, Nat.add_mul]) (newCap_le ..) hk
        exact ⟨v, h', r', _, _, h1, h2, h3, append_new hse hu hdu hi hz hb hsm hlen hgt (by simpa [Builtin.firstCells] using hro w.drew rfl) (hrn _ rfl), h4⟩
    · rename_i j
      split at hk
      · cases hk
      rename_i kn hkn
      obtain ⟨e', rw', size, z, tt, hbk, hoff, hle0, _, hkn', hesz⟩ := known_spec hkn
      obtain ⟨cs, fz, _, _, _, h7, h8⟩ := hr.cells hbk hc
      have hkc : kn ≤ cp := known_le h7 (h8.1 rfl) hcap hoff hkn' (by omega) hesz
      split at hk
      · rename_i hle
        have hle := Nat.le_of_ble_eq_true hle
        rw [nfsK_eq] at hk
        obtain ⟨h', w', h1, h2, h3, _⟩ := storeK_ok hr hc hvn hk
        rw [natK_eq] at h3
        exact ⟨_, h', r, _, w', h1, r.le_refl, .slu _ _ _ _ _ _ _ hc hcap rfl, append_in hse hu hdu hlen (Nat.le_trans hle hkc) (hrn w rfl) (by rw [Nat.add_assoc]; exact h2), h3⟩
      · split at hk
        · rename_i e2 size2 z2 tt2 hb2
          rw [hbk] at hb2; cases hb2
          split at hk
          · rename_i hcond
            simp only [Bool.and_eq_true] at hcond
            have hee := Nat.eq_of_beq_eq_true hcond.1; subst hee
            obtain ⟨cs, fz, g0, g1, g2, h7, h8⟩ := hr.cells hbk hc
            have hsz : cs.size = r.sh b + off + cp * esz := by rw [h8.1 rfl, hesz, ← hcap, Nat.add_mul, hoff]; omega
            split at hk
            · rename_i hsz2
              simp only [Bool.and_eq_true] at hsz2
              have e1 := Nat.eq_of_beq_eq_true hsz2.1
              have e3 := Nat.eq_of_beq_eq_true hsz2.2.2
              subst e1
              rw [nfsK_eq] at hk
              exact grow2_ok hr hse hu hdu hi hz hb hzs hsm hlen hbk hc g0 (g1 rfl) g2 (by rw [hsz, Nat.add_zero]) (fun _ => by rw [Nat.add_zero]) (by have e3 : _ = len * esz := e3; omega) e3 hvn hnl hrn hcond.2 hk
            · split at hk
              · cases hk
              rename_i old hold
              rw [nfsK_eq] at hk
              have hold' := hold
              unfold loadN at hold'
              rw [hbk] at hold'
              obtain ⟨m, e, hlo, hm⟩ := cellsAt_spec tt size z off _ [] old hold'
              simp at e; subst e
              have hlast : r.sh b + off + len * esz ≤ cs.size := by
                by_cases h0 : len * esz = 0
                · rw [hsz, h0]; omega
                · have hlt : len * esz - 1 < old.length := by rw [hlo]; show len * esz - 1 < len * esz; omega
                  have := cellAt_lt (hm _ _ (List.getElem?_eq_getElem hlt))
                  omega
              exact grow_ok hr hse hu hdu hi hz hb hzs hsm hlen hbk hc g0 (g1 rfl) g2 hsz (fun _ => rfl) hlast hlo hvn hnl hrn hcond.2 hm hk
          · cases hk
        · cases hk
  · rename_i b off j
    obtain ⟨c, m, a, rfl, hc, hcap, ha⟩ := hs.emp_inv
    split at hk
    · cases hk
    · split at hk
      · cases hk
      rename_i n' _ hsm
      have hsm := small_spec hsm
      split at hk
      · rename_i e size z tt hbk
        split at hk
        · rename_i hcond
          simp only [Bool.and_eq_true] at hcond
          have hee := Nat.eq_of_beq_eq_true hcond.1; subst hee
          have hoff := Nat.eq_of_beq_eq_true hcond.2.2.1
          have hle0 := Nat.le_of_ble_eq_true hcond.2.2.2
          obtain ⟨cs, fz, g0, g1, g2, h7, h8⟩ := hr.cells hbk hc
          have hoff : off = j * esz := hoff
          have hsz : cs.size = r.sh b + off + m * esz := by rw [h8.1 rfl, hcell, ← hcap, Nat.add_mul, hoff]; omega
          rw [nfsK_eq] at hk
          have hk2 : growK h b e ([] ++ new) (0 + (n' + 1)) kv = some res := by rw [Nat.zero_add]; exact hk
          exact grow_ok (len := 0) (old := []) hr hse hu hdu hi hz hb hzs (by rw [Nat.zero_add]; exact hsm) hlen hbk hc g0 (g1 rfl) g2 hsz (fun h => ha (by omega)) (by omega) (by simp) hvn hnl hrn hcond.2.1 (by simp) hk2
        · cases hk
      · cases hk
  · cases hk
theorem copyK_ok (hr : HR P w0 r h w) {t ty : Nat} {ts : List Nat} {d s : V} {D S : Value} (hd : VR r d D) (hs : VR r s S) (hk : copyK P h t d s none kv = some res) :
    ValOut P w0 r w (Builtin.copy_ ⟨t :: ts⟩ ty ⟨[D, S]⟩) kv res := by
  unfold copyK at hk
  split at hk
  · cases hk
  rename_i elem esz g hse
  obtain ⟨hu', ht⟩ := sliceElem_spec hse
  obtain ⟨_, hsz, _⟩ := tyI_spec ht
  split at hk
  · split at hk
    · rename_i ln hel
      obtain ⟨l, n⟩ := ln
      rw [hd.nils_inv]
      obtain ⟨hlen, _, hfc⟩ := elemsOf_ok (P := P) hr hs hel
      obtain ⟨xs, _, hrun⟩ := hfc 0 (by omega)
      refine ⟨_, h, r, _, w, hr, r.le_refl, .int _ _, ?_, hk⟩
      simp [Builtin.copy_, run_underlying hu', hsz, hlen, hrun w rfl, Result.andThen, goInt]
    · cases hk
  · split at hk
    · rename_i ln hel
      obtain ⟨l, n⟩ := ln
      obtain ⟨_, m, a, rfl, _⟩ := hd.emp_inv
      obtain ⟨hlen, _, hfc⟩ := elemsOf_ok (P := P) hr hs hel
      obtain ⟨xs, hv, hrun⟩ := hfc 0 (by omega)
      have hx : xs = [] := by
        have := hv.length
        simp at this
        exact List.eq_nil_of_length_eq_zero this.symm
      refine ⟨_, h, r, _, w, hr, r.le_refl, .int _ _, ?_, hk⟩
      subst hx
      simp [Builtin.copy_, run_underlying hu', hsz, hlen, hrun w rfl, Result.andThen, goInt, storeCells]
    · cases hk
  · rename_i b off len cap
    split at hk
    · cases hk
    rename_i l n hel
    obtain ⟨c, cp, rfl, hc, _⟩ := hd.sl_inv
    obtain ⟨hlen, _, hfc⟩ := elemsOf_ok (P := P) hr hs hel
    obtain ⟨xs, hv, hrun⟩ := hfc (Nat.min n len) (Nat.min_le_left _ _)
    rw [natK_eq, nfsK_eq] at hk
    obtain ⟨h', w', h1, h2, h3, _⟩ := storeK_ok hr hc hv hk
    refine ⟨_, h', r, _, w', h1, r.le_refl, .int _ _, ?_, h3⟩
    simp [Builtin.copy_, run_underlying hu', hsz, hlen, hrun w rfl, Result.andThen, goInt, h2]
  · cases hk
/-- A text as bytes: a row with room behind it; behind its end it is marked. -/
theorem bytes_ok (hr : HR P w0 r h w) {src dst elem : Nat} {ds : TypeDesc} {s : List Nat} {y : Value} (hy : VR r (.str s) y) (hsrc : P.underlying src = some ds) (hds : ds = .string) (hdst : sliceElem P dst = some (elem, 1, false)) (hel : P.underlying elem = some (.int .u8))
    (hk : freshK h elem (s.map fun b => .int .u8 (.ofNat b)) s.length kv = some res) : ValOut P w0 r w (convert src dst y) kv res := by
  subst hds
  obtain ⟨x, rfl, hx⟩ := hy.str_inv
  obtain ⟨hu', ht⟩ := sliceElem_spec hdst
  have hcell : P.cellsOf elem = 1 := (tyI_spec ht).2.2
  unfold freshK at hk
  have hsize : x.size = s.length := by rw [← hx, size_data]
  let cp := newCap w x.size 0 elem
  have hcp : x.size ≤ cp := newCap_le ..
  let arr : Array Value := x.data.map (fun b => Value.int .u8 b.toNat) ++ Array.replicate (cp - x.size) (.int .u8 0)
  have harr : arr.size = cp := by
    show (x.data.map _ ++ Array.replicate _ _).size = cp
    rw [Array.size_append, Array.size_map, Array.size_replicate]
    have : x.data.size = x.size := rfl
    omega
  have hv : VRs r (s.map fun b => V.int .u8 (.ofNat b)) (x.data.map (fun b => Value.int .u8 b.toNat)).toList := by
    rw [Array.toList_map, ← hx, List.map_map]
    generalize x.data.toList = z
    induction z with
    | nil => exact .nil
    | cons a z ih => exact .cons _ _ _ _ (.int .u8 _) ih
  obtain ⟨h', r', h1, h2, h3, h4, h3', h5⟩ := newK_ok (xs := arr) (kcap := cp) (fz := (cp, cp + 1)) hr.drew hv (fun i q hq => by
      have hi : i < (x.data.map (fun b => Value.int .u8 b.toNat)).size := by simpa using (List.getElem?_eq_some_iff.1 hq).1
      show (x.data.map _ ++ Array.replicate _ _)[i]? = _
      rw [Array.getElem?_append_left hi]; simpa using hq) (by rw [harr]; simpa [← hsize] using hcp) (fun i hi => by rw [harr] at hi; simp; omega) (fun _ => by rw [harr, hcell]; omega) (fun h => by cases h) hk
  rw [natK_eq] at h5
  refine ⟨_, h', r', .slice (some ⟨w.heap.size, 0, none⟩) x.size cp, _, h1, h2, by rw [hsize]; exact .slu _ 0 _ 0 _ _ 0 h3 (by rw [h4]; rfl) h3', ?_, h5⟩
  have e : bytesRow x (grownCap w x.size 0 elem) = arr := rfl
  rw [run_bytes_of_string w src dst elem x hsrc hu' hel, e, harr]
  rfl
end ops
end
end Go.Ev
/- The step machine: clear, and a builder's bytes as a text. -/
namespace Go.Ev
open Go Go.RowKit
noncomputable section
section ops
variable {P : Program} {w0 : Base} {w : World} {r : Ren} {h : H} {tm : Nat → Option V} {ρ : Operand → Value}
variable {β : Type} {kv : V → H → Option β} {res : β}

theorem dataK_ok (hr : HR P w0 r h w) {t ty : Nat} {ts : List Nat} {s : V} {S : Value} (hs : VR r s S) (hk : dataK P h t s none kv = some res) :
    ValOut P w0 r w (Builtin.unsafeSliceData_ ⟨t :: ts⟩ ty ⟨[S]⟩) kv res := by
  unfold dataK at hk
  split at hk
  · rw [hs.nils_inv]
    exact ⟨_, h, r, _, w, hr, r.le_refl, .nilp, rfl, hk⟩
  · rename_i b off n m
    obtain ⟨c, cp, rfl, hc, hcap⟩ := hs.sl_inv
    obtain rfl : cp = m + 1 := hcap
    exact ⟨_, h, r, _, w, hr, r.le_refl, .ptr b off c _ hc rfl, Go.Lib.run_unsafeSliceData_row w _ _ _ _ _ (by omega), hk⟩
  · rename_i b off n j
    obtain ⟨c, cp, rfl, hc, hcap⟩ := hs.sl_inv
    split at hk
    · rename_i elem esz g hse
      split at hk
      · rename_i kn hkn
        obtain ⟨e', rw', size, z, t', hb, hoff, hle, hpos, hkn', hesz⟩ := known_spec hkn
        obtain ⟨cs, fz, _, _, _, h7, h8⟩ := hr.cells hb hc
        have hkc := known_le h7 (h8.1 rfl) hcap hoff hkn' hpos hesz
        exact ⟨_, h, r, _, w, hr, r.le_refl, .ptr b off c _ hc rfl, Go.Lib.run_unsafeSliceData_row w _ _ _ _ _ (by omega), hk⟩
      · cases hk
    · cases hk
  · cases hk
theorem liesAt_b {e : TypeId} (hc : P.cellsOf e = 1) (count off n : Nat) (hn : off + n ≤ count) : liesAt P P.depth e count off e n = true := by
  have hd : P.depth = (2 * (P.types.size + Made.depth) + 1) + 1 := rfl
  rw [hd]
  simp only [liesAt, Bool.or_eq_true]
  left
  rw [hd]
  simp [rowAt, hc, hn, sameLayout, Nat.mod_one]
theorem run_unsafeString (pt _it ty e : TypeId) (hp : P.underlying pt = some (.pointer e)) (hc : P.cellsOf e = 1) (g s cells : Nat) (hsh : w.shape? g = some (e, cells)) (l : List UInt8) (h0 : l ≠ []) (hn : s + l.length ≤ cells) (h63 : l.length ≤ 9223372036854775807)
    (hcell : ∀ j x, l[j]? = some x → w.cell? ((⟨g, s, none⟩ : Addr).add j) = some (.int .u8 x.toNat)) {ts : List Nat} :
    (Builtin.unsafeString_ ⟨pt :: ts⟩ ty #[.pointer (some ⟨g, s, none⟩), .int .i64 l.length]).run P w = .ok (.string ⟨l.toArray⟩) (w.freeze ⟨g, s, none⟩ l.length) := by
  have hl : l.length ≠ 0 := by simpa using h0
  have hlb := Go.Lib.run_loadBytes (P := P) w l ⟨g, s, none⟩ .empty hcell
  have hlies := liesAt_b (P := P) hc (cells / P.cellsOf e) s l.length (by rw [hc]; simpa using hn)
  have h63' : ¬ (9223372036854775807 : Int) < (l.length : Int) := by omega
  have hdef : Builtin.unsafeString_ ⟨pt :: ts⟩ ty #[.pointer (some ⟨g, s, none⟩), .int .i64 l.length] =
      (do
        let n ← asInt (.int .i64 l.length)
        if n < 0 then runtimePanic (.error "unsafe.String: len out of range")
        if n > IntKind.i64.max then unsupported (.unsafePointer "String: a length above the largest int")
        if n = 0 then pure (.string .empty)
        else if ← variablesAt ⟨g, s, none⟩ (← elemOf pt) n.toNat then do
          let str ← loadBytes ⟨g, s, none⟩ .empty n.toNat
          freeze ⟨g, s, none⟩ n.toNat
          pure (.string str)
        else unsupported (.unsafePointer "String: not so many bytes at ptr")) := rfl
  rw [hdef]
  have hmax : IntKind.i64.max = 9223372036854775807 := rfl
  have hneg : ¬ (l.length : Int) < 0 := by omega
  simp [asInt, asIntOf, hmax, h63', hneg, hl, variablesAt, hsh, elemOf, run_underlying hp, hlies, hlb]
theorem bytesOf_get : ∀ {l : List V} {bs : List Nat}, bytesOf l = some bs → l = bs.map (fun (m : Nat) => V.int .u8 (m : Int)) ∧ ∀ m ∈ bs, m < 256
  | [], _, hb => by cases hb; exact ⟨rfl, by simp⟩
  | v :: l, bs, hb => by
    unfold bytesOf at hb
    split at hb
    · rename_i he; cases he
    · rename_i m l' he
      cases he
      split at hb
      · rename_i hlt
        split at hb
        · rename_i bs' hbs
          cases hb
          obtain ⟨e, hall⟩ := bytesOf_get hbs
          subst e
          refine ⟨rfl, fun q hq => ?_⟩
          rcases List.mem_cons.1 hq with rfl | hq
          · exact Nat.le_of_ble_eq_true hlt
          · exact hall q hq
        · cases hb
      · cases hb
    · cases hb
theorem ustrK_ok (hr : HR P w0 r h w) {t ty : Nat} {ts : List Nat} {p n : V} {X Y : Value} (hp : VR r p X) (hn : VR r n Y) (hk : ustrK P h t p n none kv = some res) :
    ValOut P w0 r w (Builtin.unsafeString_ ⟨t :: ts⟩ ty ⟨[X, Y]⟩) kv res := by
  unfold ustrK at hk
  split at hk
  · rename_i n'
    rw [hn.int_inv]
    split at hk
    · split at hk
      · rw [hp.nilp_inv]
        refine ⟨_, h, r, .string .empty, w, hr, r.le_refl, .str [] .empty (by simp), ?_, hk⟩
        have hmax : IntKind.i64.max = 9223372036854775807 := rfl
        have hdef : Builtin.unsafeString_ ⟨t :: ts⟩ ty ⟨[.pointer none, .int .i64 (.ofNat 0)]⟩ =
          (do
            let n ← asInt (.int .i64 0)
            if n < 0 then runtimePanic (.error "unsafe.String: len out of range")
            if n > IntKind.i64.max then unsupported (.unsafePointer "String: a length above the largest int")
            if n = 0 then pure (.string .empty)
            else runtimePanic (.error "unsafe.String: ptr is nil and len is not zero")) := rfl
        rw [hdef]
        simp [asInt, asIntOf, hmax]
      · cases hk
    · rename_i m
      split at hk
      · rename_i b off
        split at hk
        · rename_i l hl
          split at hk
          · rename_i bs hbs
            split at hk
            · rename_i e opn size z tt hb
              split at hk
              · rename_i u hu
                split at hk
                · rename_i hcond
                  simp only [Bool.and_eq_true] at hcond
                  have hue := Nat.eq_of_beq_eq_true hcond.1; subst hue
                  have hc1 := Nat.eq_of_beq_eq_true hcond.2.1
                  have hsm : m + 1 ≤ 100000000 := Nat.le_of_ble_eq_true hcond.2.2
                  obtain ⟨c, rfl, hc⟩ := hp.ptr_inv
                  obtain ⟨cs, fz, g0, g1, g2, g3, g4⟩ := hr.cells hb hc
                  have hl' := hl
                  unfold loadN at hl'
                  rw [hb] at hl'
                  obtain ⟨q, e1, hq, hm⟩ := cellsAt_spec tt size z off _ [] l hl'
                  simp at e1; subst e1
                  obtain ⟨e2, hall⟩ := bytesOf_get hbs
                  have hlen : bs.length = m + 1 := by have h9 : l.length = m + 1 := hq; rw [e2] at h9; simpa using h9
                  have hlast := cellAt_lt (hm m _ (List.getElem?_eq_getElem (by rw [hq]; show m < m + 1; omega)))
                  rw [T.setK_eq, natsK_eq] at hk
                  have hrun := run_unsafeString (P := P) (w := w) t t ty u hu hc1 c (r.sh b + off) cs.size (by simp [World.shape?, g0]) (bs.map UInt8.ofNat) (by intro hh; simp at hh; subst hh; simp at hlen) (by simp; omega) (by simp; omega) (fun j x hj => by
                    rw [List.getElem?_map] at hj
                    cases hbj : bs[j]? with
                    | none => rw [hbj] at hj; cases hj
                    | some y =>
                      rw [hbj] at hj
                      have hy := hall y (List.mem_of_getElem? hbj)
                      have hx : x.toNat = y := by
                        have : UInt8.ofNat y = x := by simpa using hj
                        rw [← this]
                        simp [UInt8.toNat_ofNat']; omega
                      obtain ⟨v, hv, hvr⟩ := g2 _ _ (hm j (.int .u8 (y : Int)) (by rw [e2, List.getElem?_map, hbj]; rfl))
                      rw [add_none, cell?_of g0, Nat.add_assoc, hv, hvr.int_inv, hx]) (ts := ts)
                  have hlt : c < w.heap.size := (Array.getElem?_eq_some_iff.1 g0).1
                  have hne : ¬ (bs.map UInt8.ofNat).length = 0 := by rw [List.length_map]; omega
                  have hfz : ∃ fz', (w.freeze ⟨c, r.sh b + off, none⟩ (bs.map UInt8.ofNat).length).heap[c]? = some (.cells cs u fz') := by
                    unfold World.freeze
                    rw [if_neg hne]
                    simp [Array.getElem?_modify, g0]
                  obtain ⟨fz', hfz'⟩ := hfz
                  have hupd : Upd c w (w.freeze ⟨c, r.sh b + off, none⟩ (bs.map UInt8.ofNat).length) := by
                    unfold World.freeze
                    rw [if_neg hne]
                    exact ⟨rfl, rfl, rfl, by simp, fun k hk => by simp [Array.getElem?_modify, Ne.symm hk]⟩
                  refine ⟨_, _, r, .string ⟨(bs.map UInt8.ofNat).toArray⟩, _, hr.upd (o' := .cells u false opn size z tt) hb rfl rfl hc hupd fun _ => ⟨cs, fz', hfz', fun h => (by cases h), g2, g3, g4⟩, r.le_refl, .str _ _ ?_, ?_, hk⟩
                  · show (List.map UInt8.ofNat bs).map UInt8.toNat = bs
                    rw [List.map_map]
                    conv => rhs; rw [← List.map_id bs]
                    apply List.map_congr_left
                    intro a ha
                    have := hall a ha
                    simp [UInt8.toNat_ofNat']; omega
                  · have e3 : ((bs.map UInt8.ofNat).length : Int) = Int.ofNat m.succ := by simp [hlen]
                    rw [e3] at hrun
                    exact hrun
                · cases hk
              · cases hk
            · cases hk
          · cases hk
        · cases hk
      · cases hk
  · cases hk
theorem clearK_ok (hr : HR P w0 r h w) {t ty : Nat} {ts : List Nat} {s : V} {S : Value} (hs : VR r s S) (hk : clearK P h t s none kv = some res) :
    ValOut P w0 r w (Builtin.clear_ ⟨t :: ts⟩ ty ⟨[S]⟩) kv res := by
  unfold clearK at hk
  split at hk
  · rename_i elem esz g hse
    obtain ⟨hu, ht⟩ := sliceElem_spec hse
    split at hk
    · rw [hs.nils_inv]
      exact ⟨_, h, r, .tuple #[], w, hr, r.le_refl, .tup [] [] .nil, by simp [Builtin.clear_, run_underlying hu], hk⟩
    · obtain ⟨_, m, a, rfl, _⟩ := hs.emp_inv
      exact ⟨_, h, r, .tuple #[], w, hr, r.le_refl, .tup [] [] .nil, by simp [Builtin.clear_, run_underlying hu], hk⟩
    · obtain ⟨c, m, rfl, _⟩ := hs.sl_inv
      exact ⟨_, h, r, .tuple #[], w, hr, r.le_refl, .tup [] [] .nil, by simp [Builtin.clear_, run_underlying hu], hk⟩
    · rename_i b off n cap
      obtain ⟨c, m, rfl, hc, _⟩ := hs.sl_inv
      split at hk
      · rename_i z hz
        split at hk
        · rename_i hcond
          simp only [Bool.and_eq_true] at hcond
          have hzl := Nat.eq_of_beq_eq_true hcond.1
          have hpos := Nat.le_of_ble_eq_true hcond.2.1
          obtain ⟨i, zv, hi, hzv, _, hcs⟩ := zeroV_spec (r := r) hz
          have hcl : zv.cells.size = esz := by rw [← hzl, hcs.length]; simp
          have hzeros : VRs r (repl z.cells (n + 1) []) (Builtin.zeroCells zv.cells (n + 1)).toList := by
            refine VRs.of_get' (by rw [repl_length]; simp [Builtin.zeroCells, hzl, hcl]) fun i v u hv hu' => ?_
            rw [repl_get] at hv
            split at hv
            · rename_i hlt
              obtain ⟨v', x, e1, e2, hvr⟩ := zeros_get hcs (by omega) (n := (n + 1) * esz) (by rw [← hzl]; exact hlt)
              rw [hv] at e1; cases e1
              rw [Array.getElem?_toList] at hu'
              have e3 : (Builtin.zeroCells zv.cells (n + 1))[i]? = some x := by
                unfold Builtin.zeroCells
                rw [hcl]
                rw [← e2, hcl]
              rw [e3] at hu'; cases hu'
              exact hvr
            · simp at hv
          rw [nfsK_eq] at hk
          obtain ⟨h', w', h1, h2, h3, _⟩ := storeK_ok hr hc hzeros hk
          refine ⟨_, h', r, .tuple #[], w', h1, r.le_refl, .tup [] [] .nil, ?_, h3⟩
          simp [Builtin.clear_, run_underlying hu, run_zeroValue hi hzv, h2, Result.andThen]
        · cases hk
      · cases hk
    · cases hk
  · cases hk
end ops
end
end Go.Ev
/- The step machine: every operation that acts. -/
namespace Go.Ev
open Go Go.RowKit
noncomputable section
section ops
variable {P : Program} {w0 : Base} {w : World} {r : Ren} {h : H} {tm : Nat → Option V} {ρ : Operand → Value}
variable {res : S}

/-- A deferred call. -/
inductive ADR (r : Ren) : AD → Deferred → Prop
  | call (f : Nat) (l : List V) (cap args : List Value) (h : VRs r l (args ++ cap)) : ADR r (.call f l) { target := .fn (.func f) ⟨cap⟩, args := ⟨args⟩ }
  | mark (b c : Nat) (h : r.at_ b = some c) : ADR r (.mark b) { target := .collected c, args := #[] }
theorem ADR.mono {r s : Ren} (hl : r.le s) {d : AD} {D : Deferred} (h : ADR r d D) : ADR s d D := by
  cases h with
  | call f l cap args h => exact .call f l cap args (h.mono hl)
  | mark b c h => exact .mark b c (hl b c h).1
/-- An operation's end: a value, or none. -/
def Fin (s : Result Next) (x : Value) (w' : World) : Prop := s = .ok (.value x) w' ∨ (s = .ok .skip w' ∧ x = undef)
inductive ActOut (P : Program) (w0 : Base) (r : Ren) (h : H) (w : World) (s : Sem Next) (res : S) (kv : V → H → Option S) (kc : Nat → List V → Option S) (kr : Nat → List V → Option S) (kd : AD → Option S) (kn : Option S) : Prop
  | val (v : V) (h' : H) (r' : Ren) (x : Value) (w' : World) (hr : HR P w0 r' h' w') (hl : r.le r') (hv : VR r' v x) (hs : Fin (s.run P w) x w') (hk : kv v h' = some res)
  | call (f : Nat) (l : List V) (xs : List Value) (hv : VRs r l xs) (hs : s.run P w = (callFunc f ⟨xs⟩).run P w) (hk : kc f l = some res)
  | round (b c : Nat) (l : List V) (xs : List Value) (hc : r.at_ b = some c) (hv : VRs r l xs) (hs : s.run P w = (Instr.yield c ⟨xs⟩).run P w) (hk : kr b l = some res)
  | defer (d : AD) (D : Deferred) (hd : ADR r d D) (hs : s.run P w = .ok (.defer D) w) (hk : kd d = some res)
  | recover (hs : s.run P w = .ok .recover w) (hk : kn = some res)
variable {kv : V → H → Option S} {kc kr : Nat → List V → Option S} {kd : AD → Option S} {kn : Option S}
theorem ValOut.act {s : Sem Value} {t : Sem Next} (hv : ValOut P w0 r w s kv res) (ht : ∀ x w', s.run P w = .ok x w' → t.run P w = .ok (.value x) w') : ActOut P w0 r h w t res kv kc kr kd kn := by
  obtain ⟨v, h', r', x, w', h1, h2, h3, h4, h5⟩ := hv
  exact .val v h' r' x w' h1 h2 h3 (.inl (ht x w' h4)) h5
theorem map_list (x : Array Operand) : x.map ρ = ⟨x.toList.map ρ⟩ := by apply Array.ext'; simp
theorem map_parts (x : Array (Nat × Operand)) : (x.map fun p => (p.1, ρ p.2)) = ⟨x.toList.map fun p => (p.1, ρ p.2)⟩ := by apply Array.ext'; simp
theorem methI_ok {t f : Nat} {name : String} {dr : Option Nat} (hm : methI P t name = some (f, dr)) :
    (dr = none ∧ ∀ v : Value, (method (P.types.size + Made.depth) t v name).run P w = .ok (f, v) w) ∨
    ∃ e, dr = some e ∧ ∀ (a : Addr) (x : Value), (loadVar e a).run P w = .ok x w → (method (P.types.size + Made.depth) t (.pointer (some a)) name).run P w = .ok (f, x) w := by
  have hfuel : ∃ n, P.types.size + Made.depth = n + 1 := ⟨P.types.size + Made.depth - 1, by have : 0 < Made.depth := by decide
                                                                                            omega⟩
  obtain ⟨n, hn⟩ := hfuel
  rw [hn]
  unfold methI at hm
  split at hm
  · cases hm
  rename_i i hi
  split at hm
  · cases hm
  rename_i m hmf
  split at hm
  · rename_i f' pr hp hf
    have hpath : m.path.toList = [] := by simpa using hp
    have hpath' : m.path = #[] := by apply Array.ext'; simpa using hpath
    split at hm
    · rename_i e hu
      cases hm
      refine .inl ⟨rfl, fun v => ?_⟩
      simp [method, typeInfo, hi, hmf, hpath', follow, hf, receiverAt, run_underlying hu, Place.get, Result.andThen]
    · rename_i e hu
      cases hm
      refine .inr ⟨e, rfl, fun a x hx => ?_⟩
      have hw : ∀ xt nm, (Builtin.ssaWrapNilChk_ #[xt] xt #[.pointer (some a), strVal "", strVal nm]).run P w = .ok (.pointer (some a)) w := fun _ _ => rfl
      simp [method, typeInfo, hi, hmf, hpath', follow, hf, receiverAt, run_underlying hu, Place.get, Result.andThen, hw, asAddr, hx]
    · rename_i d hnd hu
      cases hm
      refine .inl ⟨rfl, fun v => ?_⟩
      cases d <;> first | exact absurd rfl (hnd _) | simp [method, typeInfo, hi, hmf, hpath', follow, hf, receiverAt, run_underlying hu, Place.get, Result.andThen]
    · cases hm
  · cases hm
theorem act_ok (hr : HR P w0 r h w) (he : ER r tm ρ) {o : Oper} (hk : actK P tm h o none kv kc kr kd kn = some res) : ActOut P w0 r h w (execOp ρ o) res kv kc kr kd kn := by
  obtain ⟨dst, op, type, pos, after, guard⟩ := o
  unfold actK at hk
  cases op <;> dsimp only at hk <;> try (cases hk; done)
  case assign x =>
    split at hk
    · rename_i v hv
      exact .val v h r _ w hr r.le_refl (he _ _ hv) (.inl rfl) hk
    · cases hk
  case store t a x =>
    split at hk
    · rename_i b off ha
      obtain ⟨c, hc, hcat⟩ := (he _ _ ha).ptr_inv
      split at hk
      · rename_i v hv
        split at hk
        · cases hk
        rename_i vc hvc
        split at hk
        · rename_i g n ht
          split at hk
          · rename_i hlen
            rw [nfsK_eq] at hk
            obtain ⟨h', w', h1, h2, h3⟩ := store_ok hr hcat (he _ _ hv) hvc ht (Nat.eq_of_beq_eq_true hlen) hk
            refine .val _ h' r undef w' h1 r.le_refl (.tup [] [] .nil) (.inr ⟨?_, rfl⟩) h3
            simp [execOp, hc, h2, Result.andThen]
          · cases hk
        · cases hk
      · cases hk
    · cases hk
  case alloc t =>
    split at hk
    · rename_i z hz
      rw [nfsK_eq] at hk
      exact (alloc_ok hr hz hk).act fun x w' hx => exec_v hx
    · cases hk
  case box t x =>
    split at hk
    · rename_i v hv
      split at hk
      · cases hk
      rename_i vc hvc
      rw [nfsK_eq] at hk
      exact (box_ok hr (he _ _ hv) hvc hk).act fun x w' hx => exec_v hx
    · cases hk
  case buildSlice t len parts =>
    split at hk
    · rename_i elem esz g hs
      split at hk
      · rename_i ps hps
        split at hk
        · cases hk
        · split at hk
          · rename_i z hz
            split at hk
            · cases hk
            · rename_i hzl
              split at hk
              · rename_i hsm
                split at hk
                · rename_i l hl
                  rw [nfsK_eq] at hk
                  refine ValOut.act (buildSlice_ok (kv := kv) hr hs (evParts_ok he hps) (by omega) hz (Nat.eq_of_beq_eq_true hzl) (Nat.le_of_ble_eq_true hsm) hl (by simpa [natK_eq] using hk)) fun x w' hx => ?_
                  refine exec_v ?_
                  rw [← hx]; congr 2
                  exact map_parts parts
                · cases hk
              · cases hk
          · cases hk
      · cases hk
    · cases hk
  case makeSlice t l c =>
    split at hk
    · rename_i kl l' hl
      split at hk
      · rename_i kc' c' hc
        split at hk
        · rename_i elem esz g hs
          split at hk
          · cases hk
          · split at hk
            · rename_i z hz
              split at hk
              · rename_i by_ hby
                split at hk
                · cases hk
                · rename_i hzl
                  split at hk
                  · cases hk
                  · rename_i hlc
                    split at hk
                    · cases hk
                    · rename_i hsm
                      rw [nfsK_eq, natK_eq, natK_eq, natK_eq] at hk
                      refine ValOut.act (makeSlice_ok (kv := kv) (kl := kl) (kc := kc') hr hs (by omega) hz hby (Nat.eq_of_beq_eq_true hzl) (Nat.le_of_ble_eq_true hlc) (small_spec hsm) hk) fun x w' hx => exec_v ?_
                      rw [(he _ _ hl).int_inv, (he _ _ hc).int_inv]
                      exact hx
              · cases hk
            · cases hk
        · cases hk
      · cases hk
    · cases hk
  case makeMap t rs =>
    have hnew : ∀ {kv' : V → H → Option S}, newObjK h (.map [] 0) (fun b h => kv' (.map b) h) = some res → ∃ h' r', HR P w0 r' h' (w.alloc (.map #[] 0)) ∧ r.le r' ∧ r'.at_ h.nx = some w.heap.size ∧ kv' (.map h.nx) h' = some res := fun hk => by
      obtain ⟨h', r', h1, h2, h3, _, h4⟩ := newObjK_ok (o := .map #[] 0) (ao := .map [] 0) hr ⟨#[], rfl, .nil⟩ hk
      exact ⟨h', r', h1, h2, h3, h4⟩
    split at hk
    · obtain ⟨h', r', h1, h2, h3, h4⟩ := hnew hk
      refine .val _ h' r' _ _ h1 h2 (.map _ _ h3) (.inl ?_) h4
      exact exec_v (by simp [Instr.makeMap, Result.andThen])
    · rename_i x
      split at hk
      · rename_i k n kt et hx hu
        obtain ⟨h', r', h1, h2, h3, h4⟩ := hnew hk
        refine .val _ h' r' _ _ h1 h2 (.map _ _ h3) (.inl ?_) h4
        refine exec_v ?_
        simp only [Option.map_some, (he _ _ hx).int_inv]
        simp [Instr.makeMap, run_underlying hu, asInt, asIntOf, Result.andThen]
      · cases hk
  case mapUpdate t m key x =>
    split at hk
    · rename_i kt et hu
      split at hk
      · rename_i b hm
        split at hk
        · rename_i ky hky
          split at hk
          · cases hk
          rename_i hpk
          split at hk
          · rename_i v hv
            split at hk
            · rename_i es clock hb
              split at hk
              · rename_i i fv hf
                rw [nfK_eq, T.setK_eq] at hk
                obtain ⟨h', w', h1, h2, rfl⟩ := mapUpdate_ok hr hu (he _ _ hm) (he _ _ hky) (he _ _ hv) hpk hb hf
                exact .val _ _ r undef w' h1 r.le_refl (.tup [] [] .nil) (.inr ⟨by simp [execOp, h2, Result.andThen], rfl⟩) hk
              · rename_i hf
                rw [nfK_eq, natK_eq, T.setK_eq] at hk
                obtain ⟨h', w', h1, h2, rfl⟩ := mapUpdate_ok hr hu (he _ _ hm) (he _ _ hky) (he _ _ hv) hpk hb hf
                exact .val _ _ r undef w' h1 r.le_refl (.tup [] [] .nil) (.inr ⟨by simp [execOp, h2, Result.andThen], rfl⟩) hk
              · cases hk
            · cases hk
          · cases hk
        · cases hk
      · cases hk
    · cases hk
  case insert t m key x =>
    split at hk
    · rename_i kt et hu
      split at hk
      · rename_i b hm
        split at hk
        · rename_i ky hky
          split at hk
          · cases hk
          rename_i hpk
          split at hk
          · rename_i v hv
            split at hk
            · rename_i es clock hb
              split at hk
              · rename_i i fv hf
                rw [nfK_eq, T.setK_eq] at hk
                obtain ⟨h', w', h1, h2, rfl⟩ := mapUpdate_ok hr hu (he _ _ hm) (he _ _ hky) (he _ _ hv) hpk hb hf
                exact .val _ _ r undef w' h1 r.le_refl (.tup [] [] .nil) (.inr ⟨by simp [execOp, h2, Result.andThen], rfl⟩) hk
              · rename_i hf
                rw [nfK_eq, natK_eq, T.setK_eq] at hk
                obtain ⟨h', w', h1, h2, rfl⟩ := mapUpdate_ok hr hu (he _ _ hm) (he _ _ hky) (he _ _ hv) hpk hb hf
                exact .val _ _ r undef w' h1 r.le_refl (.tup [] [] .nil) (.inr ⟨by simp [execOp, h2, Result.andThen], rfl⟩) hk
              · cases hk
            · cases hk
          · cases hk
        · cases hk
      · cases hk
    · cases hk
  case range t x =>
    split at hk
    · rename_i k e hu
      split at hk
      · rename_i hx
        exact (range_nil_ok hr hu (he _ _ hx) hk).act fun x w' hx => exec_v hx
      · rename_i m hx
        split at hk
        · rename_i es clock hb
          exact (range_map_ok hr hu (he _ _ hx) hb hk).act fun x w' hx => exec_v hx
        · cases hk
      · cases hk
    · rename_i hu
      split at hk
      · rename_i s hx
        exact (range_str_ok hr hu (he _ _ hx) hk).act fun x w' hx => exec_v hx
      · cases hk
    · cases hk
  case next it isStr =>
    have hval : ∀ (v : V) (h' : H) (x : Value) (w' : World), HR P w0 r h' w' → VR r v x → (Instr.next (ρ it) isStr type).run P w = .ok x w' → kv v h' = some res →
        ActOut P w0 r h w (execOp ρ ⟨dst, .next it isStr, type, pos, after, guard⟩) res kv kc kr kd kn := fun v h' x w' h1 h2 h3 h4 => .val v h' r x w' h1 r.le_refl h2 (.inl (exec_v h3)) h4
    have tup1 : VR r (.tup [.bool false]) (.tuple #[.bool false]) := .tup _ [_] (.cons _ _ _ _ (.bool false) .nil)
    have tup3 : ∀ {a b : V} {x y : Value}, VR r a x → VR r b y → VR r (.tup [.bool true, a, b]) (.tuple #[.bool true, x, y]) := fun ha hb => .tup _ [_, _, _] (.cons _ _ _ _ (.bool true) (.cons _ _ _ _ ha (.cons _ _ _ _ hb .nil)))
    split at hk
    · rename_i rr hit
      have hy := he _ _ hit
      split at hk
      · rename_i s ps hb
        split at hk
        · cases hk
        · split at hk
          · rename_i hd
            exact hval _ _ _ _ hr tup1 (next_str_end hr hy hb hd) hk
          · rename_i c0 l hd
            split at hk
            · rename_i hlt
              rw [natK_eq, T.setK_eq, nfK_eq] at hk
              obtain ⟨w', h1, h2⟩ := next_str_ok (ty := type) hr hy hb hd (Nat.le_of_ble_eq_true hlt) rfl
              exact hval _ _ _ _ h1 (tup3 (.int _ _) (.int _ _)) h2 hk
            · cases hk
      · rename_i since seen last hb
        split at hk
        · exact hval _ _ _ _ hr tup1 (next_nil hr hy hb) hk
        · cases hk
      · rename_i m since seen last hb
        split at hk
        · cases hk
        · split at hk
          · rename_i es clock hbm
            split at hk
            · cases hk
            rename_i hg
            split at hk
            · rename_i hf
              exact hval _ _ _ _ hr tup1 (next_end_ok hr hy hb hbm hg hf) hk
            · rename_i e hf
              split at hk
              · rename_i hlt
                rw [nfK_eq, nfK_eq, T.setK_eq] at hk
                obtain ⟨x, u, w', h1, h2, h3, h4⟩ := next_one_ok (ty := type) (key := e.1) (val := e.2.1) (kb := e.2.2) hr hy hb hbm hg hf (Nat.le_of_ble_eq_true hlt)
                exact hval _ _ _ _ h1 (tup3 h2 h3) h4 hk
              · cases hk
            · rename_i e1 el hne hf
              split at hk
              · split at hk
                · rename_i hcond
                  simp only [Bool.and_eq_true] at hcond
                  rw [natsK_eq, nfK_eq, T.setK_eq] at hk
                  obtain ⟨e2, el2, rfl⟩ : ∃ e2 el2, el = e2 :: el2 := by
                    cases el with
                    | nil => exact absurd rfl hne
                    | cons a b => exact ⟨a, b, rfl⟩
                  obtain ⟨x, u, w', h1, h2, h3⟩ := next_first_ok (ty := type) hr hy hb hbm hf hcond.1 hcond.2
                  exact hval _ _ _ _ h1 (tup3 (.unk x) h2) h3 hk
                · cases hk
              · cases hk
          · cases hk
      · rename_i m since st cnt last hb
        split at hk
        · cases hk
        · split at hk
          · rename_i es clock hbm
            split at hk
            · cases hk
            rename_i hcond
            simp only [Bool.and_eq_true, Bool.not_eq_true'] at hcond
            have hse : stampsOf es = st := by have := hcond.1; rw [leqL_eq, decide_eq_true_eq] at this; exact this
            split at hk
            · rename_i hcnt
              exact hval _ _ _ _ hr tup1 (next_done_ok hr hy hb hbm hse hcond.2 (Nat.eq_of_beq_eq_true hcnt)) hk
            · rename_i hcnt
              split at hk
              · cases hk
              · rename_i e1 el
                split at hk
                · rename_i hu
                  rw [natK_eq, nfK_eq, T.setK_eq] at hk
                  obtain ⟨x, u, w', h1, h2, h3⟩ := next_more_ok (ty := type) hr hy hb hbm hse hcond.2 rfl hu (Nat.ne_of_beq_eq_false hcnt)
                  rw [hse] at h1
                  exact hval _ _ _ _ h1 (tup3 (.unk x) h2) h3 hk
                · cases hk
          · cases hk
      · cases hk
    · cases hk
  case convert src d x =>
    split at hk
    · rename_i s hx
      split at hk
      · rename_i elem esz hsrc hdst
        split at hk
        · rename_i hel
          split at hk
          · rw [natsK_eq] at hk
            exact (bytes_ok hr (he _ _ hx) hsrc rfl hdst hel hk).act fun x w' hx => exec_v hx
          · cases hk
        · cases hk
      · cases hk
    · cases hk
  case defer c =>
    obtain ⟨callee, args, ats⟩ := c
    dsimp only at hk
    split at hk
    · rename_i f
      split at hk
      · rename_i f' first cap hf
        split at hk
        · rename_i as has
          obtain ⟨p, q, hfe, hp, hq⟩ := (he _ _ hf).fn_inv
          have hA := evs_ok he has
          refine .defer _ { target := .fn (.func f') ⟨q⟩, args := ⟨p ++ args.toList.map ρ⟩ } (.call f' _ q _ ((hp.append hA).append hq)) ?_ hk
          simp [execOp, resolve, Deferred.ofValue, hfe, map_list]
        · cases hk
      · cases hk
    · cases hk
  case call c =>
    obtain ⟨callee, args, ats⟩ := c
    dsimp only at hk
    split at hk
    · rename_i f
      split at hk
      · rename_i f' first cap hf
        split at hk
        · rename_i as has
          obtain ⟨p, q, hfe, hp, hq⟩ := (he _ _ hf).fn_inv
          have hA := evs_ok he has
          refine .call f' _ (p ++ args.toList.map ρ ++ q) ((hp.append hA).append hq) ?_ hk
          simp only [execOp, resolve, Deferred.ofValue, hfe, map_list, Sem.run_bind, Sem.run_pure, andThen_ok, invoke]
          congr 2
          apply Array.ext'; simp
        · cases hk
      · rename_i l hf
        split at hk
        · rename_i as has
          obtain ⟨c, hfe, hc⟩ := (he _ _ hf).yld_inv
          refine .round l c as (args.toList.map ρ) hc (evs_ok he has) ?_ hk
          simp only [execOp, resolve, Deferred.ofValue, hfe, map_list, Sem.run_bind, Sem.run_pure, andThen_ok, invoke]
          congr 2
          apply Array.ext'; simp
        · cases hk
      · cases hk
    · rename_i rv name
      split at hk
      · rename_i t v hrv
        obtain ⟨y, hre, hy⟩ := (he _ _ hrv).iface_inv
        split at hk
        · rename_i f hm
          split at hk
          · rename_i as has
            rcases methI_ok (P := P) (w := w) hm with ⟨_, hmeth⟩ | ⟨e, h, _⟩
            · refine .call f _ (y :: args.toList.map ρ) (.cons _ _ _ _ hy (evs_ok he has)) ?_ hk
              simp only [execOp, resolve, hre, map_list, Sem.run_bind, Sem.run_pure, andThen_ok, invoke]
              have htk : List.take args.size (List.map ρ args.toList) = List.map ρ args.toList := List.take_of_length_le (by simp)
              simp [callMethod, hmeth, Result.andThen, htk]
            · cases h
          · cases hk
        · rename_i f e hm
          split at hk
          · rename_i b off
            split at hk
            · rename_i x hx
              split at hk
              · rename_i as has
                obtain ⟨c, rfl, hc⟩ := hy.ptr_inv
                obtain ⟨X, hX, hrun⟩ := loadT_ok hr hc hx
                rcases methI_ok (P := P) (w := w) hm with ⟨h, _⟩ | ⟨e', h, hmeth⟩
                · cases h
                · cases h
                  have hm2 := hmeth _ _ hrun
                  refine .call f _ (X :: args.toList.map ρ) (.cons _ _ _ _ hX (evs_ok he has)) ?_ hk
                  simp only [execOp, resolve, hre, map_list, Sem.run_bind, Sem.run_pure, andThen_ok, invoke]
                  have htk : List.take args.size (List.map ρ args.toList) = List.map ρ args.toList := List.take_of_length_le (by simp)
                  simp [callMethod, hm2, Result.andThen, htk]
              · cases hk
            · cases hk
          · cases hk
        · cases hk
      · cases hk
    · split at hk
      · rename_i s x t u hargs hats
        split at hk
        · cases hk
        · rename_i du hnd hu
          have hA := evs_ok he hargs
          generalize hz : args.toList.map ρ = zs at hA
          cases hA with
          | cons _ S' _ ys hS hA' =>
          cases hA' with
          | cons _ X _ ys' hX hN =>
          cases hN
          have h1 : args.map ρ = ⟨[S', X]⟩ := by rw [map_list, hz]
          have h2 : ats = ⟨[t, u]⟩ := by apply Array.ext'; rw [hats]
          refine (appendK_ok (ty := type) hr hS hX hu (fun k e => hnd k (by rw [e])) hk).act fun x w' hx => ?_
          simp only [execOp, resolve, Sem.run_bind, Sem.run_pure, andThen_ok, invoke, builtin, h1, h2, hx]
        · cases hk
      · cases hk
    · split at hk
      · rename_i d s t ts hargs hats
        have hA := evs_ok he hargs
        generalize hz : args.toList.map ρ = zs at hA
        cases hA with
        | cons _ D _ ys hD hA' =>
        cases hA' with
        | cons _ S' _ ys' hS hN =>
        cases hN
        have h1 : args.map ρ = ⟨[D, S']⟩ := by rw [map_list, hz]
        have h2 : ats = ⟨t :: ts⟩ := by apply Array.ext'; rw [hats]
        refine (copyK_ok (ty := type) (ts := ts) hr hD hS hk).act fun x w' hx => ?_
        simp only [execOp, resolve, Sem.run_bind, Sem.run_pure, andThen_ok, invoke, builtin, h1, h2, hx]
      · cases hk
    · split at hk
      · rename_i m key t ts hargs hats
        have hA := evs_ok he hargs
        generalize hz : args.toList.map ρ = zs at hA
        cases hA with
        | cons _ M _ ys hM hA' =>
        cases hA' with
        | cons _ K _ ys' hK hN =>
        cases hN
        have h1 : args.map ρ = ⟨[M, K]⟩ := by rw [map_list, hz]
        have h2 : ats = ⟨t :: ts⟩ := by apply Array.ext'; rw [hats]
        have hex : ∀ {x : Value} {w' : World}, (Builtin.delete_ ⟨t :: ts⟩ type ⟨[M, K]⟩).run P w = .ok x w' → (execOp ρ ⟨dst, .call ⟨.builtin .delete, args, ats⟩, type, pos, after, guard⟩).run P w = .ok (.value x) w' := fun hx => by
          simp only [execOp, resolve, Sem.run_bind, Sem.run_pure, andThen_ok, invoke, builtin, h1, h2, hx]
        split at hk
        · rename_i kt et hu
          split at hk
          · cases hk
          rename_i hpk
          split at hk
          · have hd := delete_nil (P := P) (w := w) (ty := type) (ts := ts) (ys := []) hu hK hpk
            rw [hM.nilm_inv] at hex
            exact .val _ h r _ w hr r.le_refl (.tup [] [] .nil) (.inl (hex hd)) hk
          · rename_i b
            split at hk
            · rename_i es clock hb
              split at hk
              · rename_i i fv hf
                rw [T.setK_eq] at hk
                obtain ⟨w', h1', h2'⟩ := delete_ok (ty := type) (ts := ts) (ys := []) hr hu hM hK hpk hb hf
                exact .val _ _ r _ w' h1' r.le_refl (.tup [] [] .nil) (.inl (hex h2')) hk
              · rename_i hf
                obtain ⟨w', h1', h2'⟩ := delete_ok (ty := type) (ts := ts) (ys := []) hr hu hM hK hpk hb hf
                exact .val _ _ r _ w' h1' r.le_refl (.tup [] [] .nil) (.inl (hex h2')) hk
              · cases hk
            · cases hk
          · cases hk
        · cases hk
      · cases hk
    · split at hk
      · rename_i s t ts hargs hats
        have hA := evs_ok he hargs
        generalize hz : args.toList.map ρ = zs at hA
        cases hA with
        | cons _ D _ ys hD hN =>
        cases hN
        have h1 : args.map ρ = ⟨[D]⟩ := by rw [map_list, hz]
        have h2 : ats = ⟨t :: ts⟩ := by apply Array.ext'; rw [hats]
        refine (clearK_ok (ty := type) (ts := ts) hr hD hk).act fun x w' hx => ?_
        simp only [execOp, resolve, Sem.run_bind, Sem.run_pure, andThen_ok, invoke, builtin, h1, h2, hx]
      · cases hk
    · split at hk
      · rename_i s t ts hargs hats
        have hA := evs_ok he hargs
        generalize hz : args.toList.map ρ = zs at hA
        cases hA with
        | cons _ D _ ys hD hN =>
        cases hN
        have h1 : args.map ρ = ⟨[D]⟩ := by rw [map_list, hz]
        have h2 : ats = ⟨t :: ts⟩ := by apply Array.ext'; rw [hats]
        refine (dataK_ok (ty := type) (ts := ts) hr hD hk).act fun x w' hx => ?_
        simp only [execOp, resolve, Sem.run_bind, Sem.run_pure, andThen_ok, invoke, builtin, h1, h2, hx]
      · cases hk
    · split at hk
      · rename_i p n t ts hargs hats
        have hA := evs_ok he hargs
        generalize hz : args.toList.map ρ = zs at hA
        cases hA with
        | cons _ D _ ys hD hA' =>
        cases hA' with
        | cons _ S' _ ys' hS hN =>
        cases hN
        have h1 : args.map ρ = ⟨[D, S']⟩ := by rw [map_list, hz]
        have h2 : ats = ⟨t :: ts⟩ := by apply Array.ext'; rw [hats]
        refine (ustrK_ok (ty := type) (ts := ts) hr hD hS hk).act fun x w' hx => ?_
        simp only [execOp, resolve, Sem.run_bind, Sem.run_pure, andThen_ok, invoke, builtin, h1, h2, hx]
      · cases hk
    · refine .recover ?_ hk
      simp only [execOp, resolve, Sem.run_bind, Sem.run_pure, andThen_ok, invoke, builtin]
    · cases hk
end ops
end
end Go.Ev
/- The step machine: operations that lay a block, carried out by the world later than by the machine. -/
namespace Go.Ev
open Go Go.RowKit
noncomputable section
section ops
variable {P : Program} {tm : Nat → Option V} {h : H}
theorem newK_eq {β : Type} (h : H) (elem : Nat) (opn : Bool) (vs : List V) (k : Nat → H → β) : newK h elem opn vs k = k h.nx ⟨h.t.set h.nx (.cells elem true opn vs.length [] (sets vs .e 0)), h.nx + 1⟩ := by
  unfold newK
  rw [setsK_eq, natK_eq, natK_eq, T.setK_eq]
theorem newObjK_eq {β : Type} (h : H) (o : AObj) (k : Nat → H → β) : newObjK h o k = k h.nx ⟨h.t.set h.nx o, h.nx + 1⟩ := by
  unfold newObjK
  rw [natK_eq, T.setK_eq]
/-- A block comes, by an operation. -/
def LayOut (P : Program) (r : Ren) (w : World) (s : Sem Next) (ao : AObj) (g : Nat → V) : Prop :=
  ∃ obj x, s.run P w = .ok (.value x) (w.alloc obj) ∧ ∀ (b : Nat) (r' : Ren), r.le r' → r'.at_ b = some w.heap.size → r'.sh b = 0 → OR P r' (some obj) b ao ∧ VR r' (g b) x
theorem AllocOut.lay {r : Ren} {w : World} {s : Sem Value} {t : Sem Next} {ao : AObj} {g : Nat → V} (ha : AllocOut P r w s ao g) (ht : ∀ x w', s.run P w = .ok x w' → t.run P w = .ok (.value x) w') : LayOut P r w t ao g := by
  obtain ⟨obj, x, h1, h2⟩ := ha
  exact ⟨obj, x, ht _ _ h1, h2⟩
theorem lays_ok {o : Oper} (hl : lays o = true) {kv : V → H → Option S} {kc kr : Nat → List V → Option S} {kd : AD → Option S} {kn : Option S} {res : S} (hk : actK P tm h o none kv kc kr kd kn = some res) :
    ∃ ao g, kv (g h.nx) ⟨h.t.set h.nx ao, h.nx + 1⟩ = some res ∧ ∀ (r : Ren) (w : World) (ρ : Operand → Value), ER r tm ρ → LayOut P r w (execOp ρ o) ao g := by
  obtain ⟨dst, op, type, pos, after, guard⟩ := o
  cases op with
  | alloc t =>
    simp only [actK] at hk
    split at hk
    · rename_i z hz
      rw [nfsK_eq, newK_eq] at hk
      exact ⟨_, _, hk, fun r w ρ he => (alloc_out hz).lay fun x w' hx => exec_v hx⟩
    · cases hk
  | box t x =>
    simp only [actK] at hk
    split at hk
    · rename_i v hv
      split at hk
      · cases hk
      rename_i vc hvc
      rw [nfsK_eq, newK_eq] at hk
      exact ⟨_, _, hk, fun r w ρ he => (box_out (he _ _ hv) hvc).lay fun x w' hx => exec_v hx⟩
    · cases hk
  | buildSlice t len parts =>
    simp only [actK] at hk
    split at hk
    · rename_i elem esz g hs
      split at hk
      · rename_i ps hps
        split at hk
        · cases hk
        · split at hk
          · rename_i z hz
            split at hk
            · cases hk
            · rename_i hzl
              split at hk
              · rename_i hsm
                split at hk
                · rename_i l hl'
                  rw [nfsK_eq, newK_eq] at hk
                  simp only [natK_eq] at hk
                  refine ⟨_, fun c => .sl c 0 len (.exact len), hk, fun r w ρ he => AllocOut.lay (buildSlice_out hs (evParts_ok he hps) (by omega) hz (Nat.eq_of_beq_eq_true hzl) (Nat.le_of_ble_eq_true hsm) hl') fun x w' hx => ?_⟩
                  refine exec_v ?_
                  rw [← hx]; congr 2
                  exact map_parts parts
                · cases hk
              · cases hk
          · cases hk
      · cases hk
    · cases hk
  | makeSlice t l c =>
    simp only [actK] at hk
    split at hk
    · rename_i kl l' hl1
      split at hk
      · rename_i kc' c' hc
        split at hk
        · rename_i elem esz g hs
          split at hk
          · cases hk
          · split at hk
            · rename_i z hz
              split at hk
              · rename_i by_ hby
                split at hk
                · cases hk
                · rename_i hzl
                  split at hk
                  · cases hk
                  · rename_i hlc
                    split at hk
                    · cases hk
                    · rename_i hsm
                      rw [nfsK_eq, natK_eq, natK_eq, natK_eq, newObjK_eq] at hk
                      refine ⟨_, fun b => .sl b 0 l' (.exact c'), hk, fun r w ρ he => AllocOut.lay (makeSlice_out (kl := kl) (kc := kc') hs (by omega) hz hby (Nat.eq_of_beq_eq_true hzl) (Nat.le_of_ble_eq_true hlc) (small_spec hsm)) fun x w' hx => exec_v ?_⟩
                      rw [(he _ _ hl1).int_inv, (he _ _ hc).int_inv]
                      exact hx
              · cases hk
            · cases hk
        · cases hk
      · cases hk
    · cases hk
  | makeMap t r =>
    cases r with
    | none =>
      simp only [actK] at hk
      rw [newObjK_eq] at hk
      exact ⟨_, fun b => .map b, hk, fun r w ρ he => makeMap_out.lay fun x w' hx => exec_v hx⟩
    | some x => cases hl
  | _ => cases hl
end ops
end
end Go.Ev
/- The step machine: regions that draw their order: what a plan says. -/
namespace Go.Ev
open Go Go.RowKit
noncomputable section

/-- One operation stands ahead of another in every order. -/
inductive Dep (ops : Array Oper) : Nat → Nat → Prop
  | edge (i : Nat) (o : Oper) (e : Edge) (ho : ops[i]? = some o) (he : e ∈ o.after.toList) (hb : Region.binds .any e = true) : Dep ops e.on i
  | trans (j : Nat) (i : Nat) (o : Oper) (e : Edge) (h : Dep ops j e.on) (ho : ops[i]? = some o) (he : e ∈ o.after.toList) (hb : Region.binds .any e = true) : Dep ops j i
def Back (ops : Array Oper) : Prop := ∀ i o, ops[i]? = some o → ∀ e ∈ o.after.toList, Region.binds .any e = true → e.on < i
theorem memN_ok {a : Nat} {l : List Nat} : memN a l = true ↔ a ∈ l := by
  unfold memN
  rw [List.any_eq_true]
  exact ⟨fun ⟨b, hb, h⟩ => by rw [Nat.eq_of_beq_eq_true h]; exact hb, fun h => ⟨a, h, Nat.beq_refl a⟩⟩
theorem bit_one {k j : Nat} (h : (Nat.shiftLeft 1 k).testBit j = true) : j = k := by
  have e : Nat.shiftLeft 1 k = 2 ^ k := Nat.one_shiftLeft k
  rw [e, Nat.testBit_two_pow] at h
  exact (by simpa using h : k = j).symm
theorem bit_or {a b j : Nat} (h : (Nat.lor a b).testBit j = true) : a.testBit j = true ∨ b.testBit j = true := by
  have e : Nat.lor a b = a ||| b := rfl
  rw [e, Nat.testBit_or, Bool.or_eq_true] at h
  exact h
theorem edgeBits_ok {tr : List Nat} {n : Nat} : ∀ {l : List Edge} {s : Nat}, edgeBits tr n l = some s → (∀ e ∈ l, Region.binds .any e = true → e.on < n) ∧
    ∀ j, s.testBit j = true → ∃ e ∈ l, Region.binds .any e = true ∧ (e.on = j ∨ ∃ t, tr[e.on]? = some t ∧ t.testBit j = true)
  | [], s, h => by cases h; exact ⟨by simp, fun j hj => by simp at hj⟩
  | e :: l, s, h => by
    simp only [edgeBits] at h
    split at h
    · rename_i hb
      obtain ⟨h1, h2⟩ := edgeBits_ok h
      refine ⟨fun e' he' hb' => ?_, fun j hj => ?_⟩
      · rcases List.mem_cons.1 he' with rfl | he'
        · rw [hb] at hb'; cases hb'
        · exact h1 e' he' hb'
      · obtain ⟨e', he', hh⟩ := h2 j hj
        exact ⟨e', List.mem_cons_of_mem _ he', hh⟩
    · rename_i hb
      split at h
      · cases h
      rename_i hlt
      split at h
      · cases h
      rename_i t ht
      split at h
      · cases h
      rename_i s' hs'
      cases h
      obtain ⟨h1, h2⟩ := edgeBits_ok hs'
      refine ⟨fun e' he' hb' => ?_, fun j hj => ?_⟩
      · rcases List.mem_cons.1 he' with rfl | he'
        · exact Nat.le_of_ble_eq_true hlt
        · exact h1 e' he' hb'
      · rcases bit_or hj with hj | hj
        · obtain ⟨e', he', hh⟩ := h2 j hj
          exact ⟨e', List.mem_cons_of_mem _ he', hh⟩
        · refine ⟨e, List.mem_cons_self .., hb, ?_⟩
          rcases bit_or hj with hj | hj
          · exact .inl (bit_one hj).symm
          · exact .inr ⟨t, ht, hj⟩
theorem trOf_ok {ops : Array Oper} : ∀ {l : List Oper} {tr tr' : List Nat} {n : Nat} (pre : List Oper), ops.toList = pre ++ l → pre.length = n → tr.length = n →
    (∀ i t, tr[i]? = some t → ∀ j, t.testBit j = true → Dep ops j i) → (∀ i o, i < n → ops[i]? = some o → ∀ e ∈ o.after.toList, Region.binds .any e = true → e.on < i) → trOf l tr n = some tr' →
    (∀ i t, tr'[i]? = some t → ∀ j, t.testBit j = true → Dep ops j i) ∧ Back ops
  | [], tr, tr', n, pre, hp, hn, ht, h1, h2, h => by
    cases h
    refine ⟨h1, fun i o ho => h2 i o ?_ ho⟩
    have := (Array.getElem?_eq_some_iff.1 ho).1
    rw [← Array.length_toList, hp] at this
    simp at this; omega
  | o :: l, tr, tr', n, pre, hp, hn, ht, h1, h2, h => by
    simp only [trOf] at h
    split at h
    · cases h
    rename_i s hs
    obtain ⟨g1, g2⟩ := edgeBits_ok hs
    have ho : ops[n]? = some o := by
      rw [← Array.getElem?_toList, hp, List.getElem?_append_right (by omega), hn]; simp
    refine trOf_ok (pre ++ [o]) (by rw [hp]; simp) (by simp [hn]) (by simp [ht]) ?_ ?_ h
    · intro i t hi j hj
      by_cases hlt : i < n
      · rw [List.getElem?_append_left (by omega)] at hi
        exact h1 i t hi j hj
      · rw [List.getElem?_append_right (by omega)] at hi
        have hin : i = n := by
          rcases Nat.lt_or_ge (i - tr.length) 1 with h | h
          · omega
          · rw [List.getElem?_eq_none (by simpa using h)] at hi; cases hi
        subst hin
        rw [ht, Nat.sub_self] at hi; cases hi
        obtain ⟨e, he, hb, hh⟩ := g2 j hj
        rcases hh with rfl | ⟨t', ht', hj'⟩
        · exact .edge i o e ho he hb
        · exact .trans j i o e (h1 _ _ ht' j hj') ho he hb
    · intro i o' hlt ho'
      by_cases hi : i < n
      · exact h2 i o' hi ho'
      · obtain rfl : i = n := by omega
        rw [ho] at ho'; cases ho'
        exact g1
/-- What a plan says. (The numbers are those of the operations; ex: carried out; pot: of these, which may still be outstanding in the world.) -/
def Later (ops : Array Oper) (o : Oper) (j : Nat) : Prop := ∀ oj d, ops[j]? = some oj → oj.dst = some d → d ∉ o.looksAt ops ∧ o.dst ≠ some d
inductive PlanOk (P : Program) (ops : Array Oper) : List PS → List Nat → List Nat → Prop
  | nil (ex pot : List Nat) (h : ∀ i, i < ops.size → i ∈ ex) : PlanOk P ops [] ex pot
  | rd (i : Nat) (o : Oper) (rc : List Oper) (l : List PS) (ex pot : List Nat) (ho : ops[i]? = some o) (hn : i ∉ ex) (hr : reads P o = true)
      (hl : ∀ j oj d, j ∈ pot → ops[j]? = some oj → oj.dst = some d → d ∈ o.looksAt ops → Dep ops j i) (hs : ∀ d, o.dst = some d → d ∉ o.looksAt ops)
      (hf : ∀ j oj d, j ∈ pot → ops[j]? = some oj → o.dst = some d → d ∉ oj.looksAt ops)
      (hrc : opersOf ops ((pot ++ [i]).filter (isRd P ops)) = some rc) (h : PlanOk P ops l (i :: ex) (pot ++ [i])) : PlanOk P ops (.rd o rc :: l) ex pot
  | al (i : Nat) (o : Oper) (rc : List Oper) (l : List PS) (ex pot : List Nat) (ho : ops[i]? = some o) (hn : i ∉ ex) (hr : lays o = true)
      (hl : ∀ j oj d, j ∈ pot → ops[j]? = some oj → oj.dst = some d → d ∈ o.looksAt ops → Dep ops j i) (hs : ∀ d, o.dst = some d → d ∉ o.looksAt ops)
      (hf : ∀ j oj d, j ∈ pot → ops[j]? = some oj → o.dst = some d → d ∉ oj.looksAt ops) (hlt : ∀ j, j < ops.size → j ∉ ex → j ≠ i → Later ops o j)
      (hrc : opersOf ops ((pot ++ [i]).filter (isRd P ops)) = some rc) (h : PlanOk P ops l (i :: ex) (pot ++ [i])) : PlanOk P ops (.al o rc :: l) ex pot
  | act (i : Nat) (o : Oper) (rcI : List Nat) (rc : List Oper) (l : List PS) (ex pot : List Nat) (ho : ops[i]? = some o) (hn : i ∉ ex)
      (h1 : ∀ j, j < ops.size → j ∉ ex → j ≠ i → Dep ops i j) (h2 : ∀ j, j ∈ pot → j ∈ rcI ∨ Dep ops j i) (h3 : ∀ j, j ∈ rcI → j ∈ pot)
      (h4 : ∀ j oj d, j ∈ rcI → ops[j]? = some oj → oj.dst = some d → d ∉ o.looksAt ops)
      (hrc : opersOf ops (rcI.filter (isRd P ops)) = some rc) (h : PlanOk P ops l (i :: ex) rcI) : PlanOk P ops (.act o rc :: l) ex pot
theorem looksD_ok {ops : Array Oper} {o : Oper} {j : Nat} (h : looksD ops o j = false) : ∀ oj d, ops[j]? = some oj → oj.dst = some d → d ∉ o.looksAt ops := by
  intro oj d hj hd hm
  unfold looksD at h
  rw [hj] at h
  dsimp only at h
  rw [hd] at h
  dsimp only at h
  rw [memN_ok.2 hm] at h
  cases h
theorem apartD_ok {ops : Array Oper} {o : Oper} {j : Nat} (h : apartD ops o j = true) : ∀ oj d, ops[j]? = some oj → oj.dst = some d → o.dst ≠ some d := by
  intro oj d hj hd he
  unfold apartD at h
  rw [hj] at h
  dsimp only at h
  rw [hd] at h
  dsimp only at h
  rw [he] at h
  simp at h
theorem chk_all {P : Program} {ops : Array Oper} {tr : List Nat} : ∀ {l : List PI} {ex pot : List Nat}, chk P ops tr l ex pot = true → ∀ j, j < ops.size → j ∈ ex ∨ ∃ p ∈ l, p.i = j
  | [], ex, pot, h, j, hj => by
    simp only [chk, List.all_eq_true, List.mem_range] at h
    exact .inl (memN_ok.1 (h j hj))
  | .rd i :: l, ex, pot, h, j, hj => by
    simp only [chk] at h
    split at h
    · cases h
    · simp only [Bool.and_eq_true] at h
      rcases chk_all h.2.2.2.2.2 j hj with h | ⟨p, hp, he⟩
      · rcases List.mem_cons.1 h with rfl | h
        · exact .inr ⟨_, List.mem_cons_self .., rfl⟩
        · exact .inl h
      · exact .inr ⟨p, List.mem_cons_of_mem _ hp, he⟩
  | .al i :: l, ex, pot, h, j, hj => by
    simp only [chk] at h
    split at h
    · cases h
    · simp only [Bool.and_eq_true] at h
      rcases chk_all h.2.2.2.2.2.2 j hj with h | ⟨p, hp, he⟩
      · rcases List.mem_cons.1 h with rfl | h
        · exact .inr ⟨_, List.mem_cons_self .., rfl⟩
        · exact .inl h
      · exact .inr ⟨p, List.mem_cons_of_mem _ hp, he⟩
  | .act i rc :: l, ex, pot, h, j, hj => by
    simp only [chk] at h
    split at h
    · cases h
    · simp only [Bool.and_eq_true] at h
      rcases chk_all h.2.2.2.2 j hj with h | ⟨p, hp, he⟩
      · rcases List.mem_cons.1 h with rfl | h
        · exact .inr ⟨_, List.mem_cons_self .., rfl⟩
        · exact .inl h
      · exact .inr ⟨p, List.mem_cons_of_mem _ hp, he⟩
theorem trAt_ok {ops : Array Oper} {tr : List Nat} (htr : ∀ i t, tr[i]? = some t → ∀ j, t.testBit j = true → Dep ops j i) {i j : Nat} (h : trAt tr i j = true) : Dep ops j i := by
  unfold trAt at h
  split at h
  · rename_i t ht; exact htr i t ht j h
  · cases h
theorem chk_ok {P : Program} {ops : Array Oper} {tr : List Nat} (htr : ∀ i t, tr[i]? = some t → ∀ j, t.testBit j = true → Dep ops j i) : ∀ {l : List PI} {ex pot : List Nat} {plan : List PS}, chk P ops tr l ex pot = true → mkPS P ops l pot = some plan → PlanOk P ops plan ex pot
  | [], ex, pot, plan, h, hm => by
    cases hm
    refine .nil _ _ fun i hi => ?_
    simp only [chk, List.all_eq_true, List.mem_range] at h
    exact memN_ok.1 (h i hi)
  | .rd i :: l, ex, pot, plan, h, hm => by
    simp only [chk] at h
    split at h
    · cases h
    rename_i o ho
    simp only [Bool.and_eq_true, Bool.not_eq_true'] at h
    obtain ⟨h1, h2, h3, h4, h6, h5⟩ := h
    simp only [mkPS, ho] at hm
    split at hm
    · cases hm
    rename_i rc hrc
    split at hm
    · cases hm
    rename_i m hm'
    cases hm
    refine .rd i o rc m ex pot ho (fun hh => by rw [memN_ok.2 hh] at h1; cases h1) h2 ?_ ?_ ?_ hrc (chk_ok htr h5 hm')
    · intro j oj d hj hoj hd hlk
      have := List.all_eq_true.1 h3 j hj
      rw [Bool.or_eq_true, Bool.not_eq_true'] at this
      rcases this with h | h
      · exact absurd hlk (looksD_ok h oj d hoj hd)
      · exact trAt_ok htr h
    · exact fun d hd => looksD_ok h4 o d ho hd
    · intro j oj d hj hoj hd
      have := List.all_eq_true.1 h6 j hj
      rw [hoj] at this
      exact looksD_ok (by simpa using this) o d ho hd
  | .al i :: l, ex, pot, plan, h, hm => by
    have hall := h
    simp only [chk] at h
    split at h
    · cases h
    rename_i o ho
    simp only [Bool.and_eq_true, Bool.not_eq_true'] at h
    obtain ⟨h1, h2, h3, h4, h6, h7, h5⟩ := h
    simp only [mkPS, ho] at hm
    split at hm
    · cases hm
    rename_i rc hrc
    split at hm
    · cases hm
    rename_i m hm'
    cases hm
    refine .al i o rc m ex pot ho (fun hh => by rw [memN_ok.2 hh] at h1; cases h1) h2 ?_ ?_ ?_ ?_ hrc (chk_ok htr h5 hm')
    · intro j oj d hj hoj hd hlk
      have := List.all_eq_true.1 h3 j hj
      rw [Bool.or_eq_true, Bool.not_eq_true'] at this
      rcases this with h | h
      · exact absurd hlk (looksD_ok h oj d hoj hd)
      · exact trAt_ok htr h
    · exact fun d hd => looksD_ok h4 o d ho hd
    · intro j oj d hj hoj hd
      have := List.all_eq_true.1 h6 j hj
      rw [hoj] at this
      exact looksD_ok (by simpa using this) o d ho hd
    · intro j hj hne hji
      rcases chk_all hall j hj with hh | ⟨p, hp, he⟩
      · exact absurd hh hne
      · rcases List.mem_cons.1 hp with rfl | hp
        · exact absurd he.symm hji
        · have := List.all_eq_true.1 h7 p hp
          rw [Bool.and_eq_true, Bool.not_eq_true', he] at this
          exact fun oj d hoj hd => ⟨looksD_ok this.1 oj d hoj hd, apartD_ok this.2 oj d hoj hd⟩
  | .act i rc :: l, ex, pot, plan, h, hm => by
    have hall := h
    simp only [chk] at h
    split at h
    · cases h
    rename_i o ho
    simp only [Bool.and_eq_true, Bool.not_eq_true'] at h
    obtain ⟨h1, h2, h3, h4, h5⟩ := h
    simp only [mkPS, ho] at hm
    split at hm
    · cases hm
    rename_i rs hrs
    split at hm
    · cases hm
    rename_i m hm'
    cases hm
    refine .act i o rc rs m ex pot ho (fun hh => by rw [memN_ok.2 hh] at h1; cases h1) ?_ ?_ ?_ ?_ hrs (chk_ok htr h5 hm')
    · intro j hj hne hji
      rcases chk_all hall j hj with hh | ⟨p, hp, he⟩
      · exact absurd hh hne
      · rcases List.mem_cons.1 hp with rfl | hp
        · exact absurd he.symm hji
        · rw [← he]; exact trAt_ok htr (List.all_eq_true.1 h2 p hp)
    · intro j hj
      have := List.all_eq_true.1 h3 j hj
      rw [Bool.or_eq_true] at this
      rcases this with h | h
      · exact .inl (memN_ok.1 h)
      · exact .inr (trAt_ok htr h)
    · intro j hj
      have := List.all_eq_true.1 h4 j hj
      rw [Bool.and_eq_true] at this
      exact memN_ok.1 this.1
    · intro j oj d hj hoj hd
      have := List.all_eq_true.1 h4 j hj
      rw [Bool.and_eq_true, Bool.not_eq_true'] at this
      exact looksD_ok this.2 oj d hoj hd
theorem plan_ok {P : Program} {ops : Array Oper} {plan : List PS} (h : planOf P ops = some plan) : PlanOk P ops plan [] [] ∧ Back ops ∧ P.follows .mixedOrders = true := by
  unfold planOf at h
  split at h
  · cases h
  rename_i hf
  split at h
  · cases h
  rename_i l tr hp
  split at h
  · cases h
  rename_i hc
  unfold planI at hp
  split at hp
  · cases hp
  rename_i tr' htr
  split at hp
  · cases hp
  cases hp
  obtain ⟨h1, h2⟩ := trOf_ok (ops := ops) [] (by simp) rfl rfl (by simp) (fun i o hlt => absurd hlt (by simp)) htr
  exact ⟨chk_ok h1 hc h, h2, hf⟩

/-- An order that goes by what must stand ahead. -/
inductive Fol (ops : Array Oper) : (Nat → Bool) → List Nat → Prop
  | nil (L : Nat → Bool) (h : ∀ i, i < ops.size → L i = true) : Fol ops L []
  | cons (i : Nat) (o : Oper) (l : List Nat) (L : Nat → Bool) (ho : ops[i]? = some o) (hn : L i = false) (hd : ∀ e ∈ o.after.toList, Region.binds .any e = true → L e.on = true)
      (h : Fol ops (fun j => j == i || L j) l) : Fol ops L (i :: l)
def unl (L : Nat → Bool) (n : Nat) : Nat := ((List.range n).filter fun i => !L i).length
theorem go_fol {ops : Array Oper} (hb : Back ops) : ∀ (fuel t : Nat) (listed : Array Bool) (acc : List Nat) (L : Nat → Bool), listed.size = ops.size → (∀ i, i < ops.size → listed[i]? = some (L i)) → unl L ops.size = fuel →
    ∃ l, Region.linearise.go .any ops fuel t listed acc = acc.reverse ++ l ∧ Fol ops L l := by
  intro fuel
  induction fuel with
  | zero =>
    intro t listed acc L hs hL hu
    refine ⟨[], by simp [Region.linearise.go], .nil L fun i hi => ?_⟩
    have := List.length_eq_zero_iff.1 hu
    have := List.filter_eq_nil_iff.1 this i (by simpa using hi)
    simpa using this
  | succ fuel ih =>
    intro t listed acc L hs hL hu
    have hgd : ∀ i d, i < ops.size → listed.getD i d = L i := fun i d hi => by
      rw [Array.getD_eq_getD_getElem?, hL i hi]; rfl
    -- which are ready
    have hready : ∀ i, i ∈ ((List.range ops.size).filter fun i => !listed.getD i true && ((ops[i]?).map (·.after.all fun e => !Region.binds .any e || listed.getD e.on false)).getD false) ↔
        i < ops.size ∧ L i = false ∧ ∃ o, ops[i]? = some o ∧ ∀ e ∈ o.after.toList, Region.binds .any e = true → L e.on = true := by
      intro i
      rw [List.mem_filter, List.mem_range]
      refine ⟨fun ⟨hi, h⟩ => ?_, fun ⟨hi, hn, o, ho, hd⟩ => ⟨hi, ?_⟩⟩
      · rw [hgd i true hi] at h
        have ho := Array.getElem?_eq_getElem hi
        rw [ho] at h
        simp only [Option.map_some, Option.getD_some, Bool.and_eq_true, Bool.not_eq_true'] at h
        refine ⟨hi, h.1, _, ho, fun e he hbe => ?_⟩
        have h2 := h.2
        rw [← Array.all_toList, List.all_eq_true] at h2
        have := h2 e he
        rw [hbe] at this
        have hlt := hb i _ ho e he hbe
        rw [hgd e.on false (by omega)] at this
        simpa using this
      · rw [hgd i true hi, hn, ho]
        simp only [Option.map_some, Option.getD_some, Bool.not_false, Bool.true_and]
        rw [← Array.all_toList, List.all_eq_true]
        intro e he
        cases hbe : Region.binds .any e with
        | false => rfl
        | true =>
          have hlt := hb i _ ho e he hbe
          rw [hgd e.on false (by omega), hd e he hbe]; rfl
    unfold Region.linearise.go
    generalize hrs : ((List.range ops.size).filter fun i => !listed.getD i true && ((ops[i]?).map (·.after.all fun e => !Region.binds .any e || listed.getD e.on false)).getD false) = rs at hready
    -- one is ready: the first that is not listed
    have hne : 0 < rs.length := by
      obtain ⟨i, hi⟩ : ∃ i, i ∈ (List.range ops.size).filter fun i => !L i := by
        have hpos : 0 < ((List.range ops.size).filter fun i => !L i).length := by
          have : unl L ops.size = ((List.range ops.size).filter fun i => !L i).length := rfl
          omega
        exact List.exists_mem_of_length_pos hpos
      rw [List.mem_filter, List.mem_range] at hi
      have hmin : ∀ n, ∀ i, i = n → i < ops.size → L i = false → ∃ k, k ∈ rs := by
        intro n
        induction n using Nat.strongRecOn with
        | _ n ih2 =>
          intro i hin hi hl
          by_cases hall : ∀ e ∈ (ops[i]).after.toList, Region.binds .any e = true → L e.on = true
          · exact ⟨i, (hready i).2 ⟨hi, hl, _, Array.getElem?_eq_getElem hi, hall⟩⟩
          · have : ∃ e, e ∈ (ops[i]).after.toList ∧ Region.binds .any e = true ∧ L e.on = false := by
              refine Classical.byContradiction fun hno => hall fun e he hbe => ?_
              cases hle : L e.on with
              | true => rfl
              | false => exact absurd ⟨e, he, hbe, hle⟩ hno
            obtain ⟨e, he, hbe, hle⟩ := this
            have hlt := hb i _ (Array.getElem?_eq_getElem hi) e he hbe
            exact ih2 e.on (by omega) e.on rfl (by omega) hle
      obtain ⟨k, hk⟩ := hmin i i rfl hi.1 (by simpa using hi.2)
      exact List.length_pos_of_mem hk
    have hlt : t % rs.length < rs.length := Nat.mod_lt _ hne
    simp only [List.getElem?_eq_getElem hlt]
    have hmem := (hready _).1 (List.getElem_mem hlt)
    generalize rs[t % rs.length] = i at hmem
    obtain ⟨hi, hn, o, ho, hd⟩ := hmem
    have hcnt : unl (fun j => j == i || L j) ops.size = fuel := by
      have h1 : ∀ n, i < n → unl L n = unl (fun j => j == i || L j) n + 1 := by
        intro n
        induction n with
        | zero => intro h; omega
        | succ n ihn =>
          intro hlt'
          simp only [unl, List.range_succ, List.filter_append, List.length_append] at ihn ⊢
          by_cases hin : i = n
          · subst hin
            have heq : ((List.range i).filter fun j => !(j == i || L j)) = (List.range i).filter fun j => !L j := by
              apply List.filter_congr
              intro x hx
              have : x ≠ i := by have := List.mem_range.1 hx; omega
              simp [this]
            rw [heq]
            simp [hn]
          · have := ihn (by omega)
            have hni : (n == i) = false := by simpa using Ne.symm hin
            have e2 : ([n].filter fun j => !(j == i || L j)) = [n].filter fun j => !L j := by simp [List.filter_cons, hni]
            rw [e2]; omega
      have := h1 ops.size hi
      omega
    obtain ⟨l, e1, e2⟩ := ih (t / rs.length) (listed.setIfInBounds i true) (i :: acc) (fun j => j == i || L j) (by simpa using hs) (fun j hj => by
      by_cases hji : j = i
      · subst hji; simp [hs, hj]
      · rw [Array.getElem?_setIfInBounds_ne (Ne.symm hji), hL j hj]; simp [hji]) hcnt
    exact ⟨i :: l, by rw [e1]; simp, .cons i o l L ho hn hd e2⟩
theorem schedule_fol {ops : Array Oper} (hb : Back ops) (t : Nat) : Fol ops (fun _ => false) (Region.schedule true ops t) := by
  unfold Region.schedule
  simp only [Bool.true_or, if_true]
  unfold Region.linearise
  obtain ⟨l, e1, e2⟩ := go_fol hb ops.size t (Array.replicate ops.size false) [] (fun _ => false) (by simp) (fun i hi => by simp [hi]) (by unfold unl; rw [List.filter_eq_self.2 (by simp)]; simp)
  rw [e1]; exact e2
/-- What was carried out is shut under what stands ahead. -/
def Shut (ops : Array Oper) (L : Nat → Bool) : Prop := ∀ i o, ops[i]? = some o → L i = true → ∀ e ∈ o.after.toList, Region.binds .any e = true → L e.on = true
theorem Dep.ahead {ops : Array Oper} {L : Nat → Bool} (hs : Shut ops L) {j i : Nat} (h : Dep ops j i) {o : Oper} (ho : ops[i]? = some o) (hd : ∀ e ∈ o.after.toList, Region.binds .any e = true → L e.on = true) : L j = true := by
  induction h generalizing o with
  | edge i o' e ho' he hb => rw [ho] at ho'; cases ho'; exact hd e he hb
  | trans j i o' e h ho' he hb ih =>
    rw [ho] at ho'; cases ho'
    have hl := hd e he hb
    cases hoe : ops[e.on]? with
    | none =>
      -- nothing stands there: it cannot stand behind anything
      cases h with
      | edge _ o2 e2 ho2 => rw [hoe] at ho2; cases ho2
      | trans _ _ o2 e2 _ ho2 => rw [hoe] at ho2; cases ho2
    | some o2 => exact ih hoe (hs e.on o2 hoe hl)
end
end Go.Ev
/- The step machine: functions without a body that the model gives. -/
namespace Go.Ev
open Go Go.RowKit
noncomputable section
section ops
variable {P : Program} {w0 : Base} {w : World} {r : Ren} {h : H}

theorem idxOf_spec (c : Nat) : ∀ (l : List Nat) (i : Nat), match idxOf c l i with
    | some j => ∃ k, j = i + k ∧ l[k]? = some c ∧ ∀ m, m < k → l[m]? ≠ some c
    | none => c ∉ l
  | [], i => by simp [idxOf]
  | a :: l, i => by
    have ih := idxOf_spec c l (i + 1)
    simp only [idxOf]
    cases hb : Nat.beq a c with
    | true =>
      have := Nat.eq_of_beq_eq_true hb; subst this
      exact ⟨0, by simp, by simp, fun m hm => by omega⟩
    | false =>
      have hne := Nat.ne_of_beq_eq_false hb
      dsimp only
      cases he : idxOf c l (i + 1) with
      | none =>
        rw [he] at ih
        simp only [List.mem_cons, not_or]
        exact ⟨fun e => hne e.symm, ih⟩
      | some j =>
        rw [he] at ih
        obtain ⟨k, h1, h2, h3⟩ := ih
        refine ⟨k + 1, by omega, by simpa using h2, fun m hm => ?_⟩
        cases m with
        | zero => simp [hne]
        | succ m => simpa using h3 m (by omega)
theorem find_range {p : Nat → Bool} {n k : Nat} (hk : k < n) (h1 : p k = true) (h2 : ∀ m, m < k → p m = false) : (List.range n).find? p = some k := by
  rw [List.find?_eq_some_iff_getElem]
  refine ⟨h1, k, by simpa using hk, by simp, fun j hj => by simp [h2 j hj]⟩
theorem find_range_none {p : Nat → Bool} {n : Nat} (h2 : ∀ m, m < n → p m = false) : (List.range n).find? p = none := by
  rw [List.find?_eq_none]
  intro x hx
  simp [h2 x (List.mem_range.1 hx)]
/-- IndexByteString. -/
theorem indexByte_run {s : List Nat} {x : ByteArray} {c : Nat} (hs : x.data.toList.map UInt8.toNat = s) (hc : c < 256) :
    (Extern.BytealgIndexByte.indexByte #[.string x, .int .u8 (c : Int)]).run P w = .ok (.int .i64 (match idxOf c s 0 with | some i => (i : Int) | none => -1)) w := by
  have hlen : x.size = s.length := by
    rw [← hs, List.length_map, Array.length_toList]; rfl
  have hp : ∀ m, m < x.size → (x[m]! == c.toUInt8) = decide (s[m]? = some c) := fun m hm => by
    have hd : m < x.data.toList.length := by rw [Array.length_toList]; exact hm
    have e1 : x[m]! = x.data.toList[m] := by
      rw [getElem!_pos x m hm]
      rfl
    have e2 : s[m]? = some (x.data.toList[m]).toNat := by
      rw [← hs, List.getElem?_map, List.getElem?_eq_getElem hd]; rfl
    rw [e1, e2]
    generalize x.data.toList[m] = y
    have e3 : c.toUInt8.toNat = c := by
      rw [Nat.toUInt8_eq, UInt8.toNat_ofNat']
      exact Nat.mod_eq_of_lt hc
    by_cases h : y.toNat = c
    · have : y = c.toUInt8 := UInt8.toNat_inj.1 (h.trans e3.symm)
      rw [this, e3]
      simp
    · have : y ≠ c.toUInt8 := fun e => h (by rw [e]; exact e3)
      rw [beq_eq_false_iff_ne.2 this]
      symm
      rw [decide_eq_false_iff_not]
      exact fun e => h (Option.some.inj e)
  have hspec := idxOf_spec c s 0
  have hrun : ∀ o : Option Nat, (List.range x.size).find? (fun i => x[i]! == c.toUInt8) = o → (Extern.BytealgIndexByte.indexByte #[.string x, .int .u8 (c : Int)]).run P w = .ok (.int .i64 (match o with | some i => (i : Int) | none => -1)) w := fun o ho => by
    have e : Extern.BytealgIndexByte.indexByte #[.string x, .int .u8 (c : Int)] = (match (List.range x.size).find? (fun i => x[i]! == c.toUInt8) with
      | some i => pure (goInt i)
      | none => pure (goInt (-1)) : Sem Value) := rfl
    rw [e, ho]
    cases o <;> rfl
  refine hrun _ ?_
  cases he : idxOf c s 0 with
  | some j =>
    rw [he] at hspec
    obtain ⟨k, h1, h2, h3⟩ := hspec
    have hk : k < x.size := by rw [hlen]; exact (List.getElem?_eq_some_iff.1 h2).1
    obtain rfl : j = k := by omega
    exact find_range hk (by rw [hp _ hk, h2]; simp) fun m hm => by rw [hp _ (by omega), decide_eq_false_iff_not]; exact h3 m hm
  | none =>
    rw [he] at hspec
    exact find_range_none fun m hm => by
      rw [hp _ hm, decide_eq_false_iff_not]
      exact fun e => hspec (List.mem_of_getElem? e)
/-- The row of a function that the model gives. -/
def extRow : Ext → Array Value → Sem Value
  | .typeOf => Extern.ReflectliteType.typeOf
  | .comparable => Extern.ReflectliteType.method fun t => do Extern.Rtype.noPackHeld "Comparable" t; pure (.bool (← typeInfo t).comparable)
  | .indexByte => Extern.BytealgIndexByte.indexByte
  | .same => Extern.AbiNoEscape.same
theorem extE_ok {e : Ext} {args : List V} {xs : List Value} {v : V} (hr : HR P w0 r h w) (hv : VRs r args xs) (he : extE P e args = some v) : ∃ x, VR r v x ∧ (extRow e ⟨xs⟩).run P w = .ok x w := by
  unfold extE at he
  split at he
  · cases he
    cases hv with
    | cons _ x _ y hx hy =>
    cases hy
    rw [hx.nilIface_inv]
    exact ⟨_, .nilIface, rfl⟩
  · rename_i t u
    split at he
    · rename_i hg
      split at he
      · rename_i c hc
        cases he
        cases hv with
        | cons _ x _ y hx hy =>
        cases hy
        obtain ⟨z, rfl, _⟩ := hx.iface_inv
        have hglob := hr.glob P.globals.size (Nat.le_of_ble_eq_true hg)
        refine ⟨.iface c.2 (.agg ⟨[.pointer (some ⟨P.globals.size, t, none⟩)]⟩), .iface _ _ _ (.agg _ _ (.cons _ _ _ _ (.ptr _ _ _ _ hglob (by rw [hr.gsh _ (Nat.le_of_ble_eq_true hg), Nat.zero_add])) .nil)), ?_⟩
        have e : extRow .typeOf ⟨[.iface t z]⟩ = Extern.ReflectliteType.toType t := rfl
        rw [e]
        simp [Extern.ReflectliteType.toType, cutType, hc, Result.andThen, Extern.Rtype.handle, typeHandle]
      · cases he
    · cases he
  · rename_i g t
    split at he
    · rename_i hcond
      simp only [Bool.and_eq_true, Bool.not_eq_true'] at hcond
      split at he
      · rename_i i hi
        cases he
        cases hv with
        | cons _ x _ y hx hy =>
        cases hy
        obtain ⟨z, rfl, hz⟩ := hx.agg_inv
        cases hz with
        | cons _ p _ q hp hq =>
        cases hq
        obtain ⟨c, rfl, hc⟩ := hp.ptr_inv
        rw [hr.gsh g (Nat.le_of_ble_eq_true hcond.1), Nat.zero_add]
        have hglob := hr.glob g (Nat.le_of_ble_eq_true hcond.1)
        rw [hc] at hglob
        cases hglob
        have hge := Nat.eq_of_beq_eq_true hcond.2.1
        refine ⟨_, .bool _, ?_⟩
        have e : extRow .comparable ⟨[.agg ⟨[.pointer (some ⟨g, t, none⟩)]⟩]⟩ = (do
          let t ← (do let t ← Extern.Rtype.ofHandle (.pointer (some ⟨g, t, none⟩)); Extern.Rtype.noPack "a Type asked or handed on" t; pure t : Sem TypeId)
          Extern.Rtype.noPackHeld "Comparable" t; pure (.bool (← typeInfo t).comparable) : Sem Value) := rfl
        rw [e]
        have q1 : (Extern.Rtype.ofHandle (.pointer (some ⟨g, t, none⟩))).run P w = .ok t w := by simp [Extern.Rtype.ofHandle, handleType, hge]
        have q2 : ∀ what, (Extern.Rtype.noPack what t).run P w = .ok () w := fun what => by simp [Extern.Rtype.noPack, hcond.2.2.1]
        have q3 : ∀ what, (Extern.Rtype.noPackHeld what t).run P w = .ok () w := fun what => by simp [Extern.Rtype.noPackHeld, hcond.2.2.2]
        have q4 : (typeInfo t).run P w = .ok i w := by simp [typeInfo, hi]
        simp only [Sem.run_bind, Sem.run_pure, q1, q2, q3, q4, Result.andThen_ok]
      · cases he
    · cases he
  · rename_i s c
    split at he
    · rename_i hc
      cases he
      cases hv with
      | cons _ x _ y hx hy =>
      cases hy with
      | cons _ u _ z hu hz =>
      cases hz
      obtain ⟨p, rfl, hp⟩ := hx.str_inv
      rw [hu.int_inv]
      refine ⟨_, ?_, indexByte_run hp (Nat.le_of_ble_eq_true hc)⟩
      cases idxOf c s 0 <;> exact .int _ _
    · cases he
  · rename_i v'
    cases he
    cases hv with
    | cons _ x _ y hx hy =>
    cases hy
    exact ⟨x, hx, rfl⟩
  · cases he
theorem extOf_row {n : String} {e : Ext} (h : extOf n = some e) : n = (match e with | .typeOf => "internal/reflectlite.TypeOf" | .comparable => "(internal/reflectlite.rtype).Comparable" | .indexByte => "internal/bytealg.IndexByteString" | .same => "internal/abi.NoEscape") := by
  unfold extOf at h
  split at h
  · rename_i hn; cases h; simpa using hn
  · split at h
    · rename_i hn; cases h; simpa using hn
    · split at h
      · rename_i hn; cases h; simpa using hn
      · split at h
        · rename_i hn; cases h; simpa using hn
        · cases h
theorem row4 : (Extern.allGenericRows.lookup "internal/abi.NoEscape").isNone = true ∧ (Extern.allTypedRows.lookup "internal/abi.NoEscape").isNone = true ∧ Extern.allRows.lookup "internal/abi.NoEscape" = some (extRow .same) := ⟨by kernel_rfl, by kernel_rfl, by kernel_rfl⟩
theorem row5 : (Extern.allGenericRows.lookup "internal/bytealg.MakeNoZero").isNone = true ∧ Extern.allTypedRows.lookup "internal/bytealg.MakeNoZero" = some Extern.BytealgMakeNoZero.makeNoZero := ⟨by kernel_rfl, by kernel_rfl⟩
theorem row1 : (Extern.allGenericRows.lookup "internal/reflectlite.TypeOf").isNone = true ∧ (Extern.allTypedRows.lookup "internal/reflectlite.TypeOf").isNone = true ∧ Extern.allRows.lookup "internal/reflectlite.TypeOf" = some (extRow .typeOf) := ⟨by kernel_rfl, by kernel_rfl, by kernel_rfl⟩
theorem row2 : (Extern.allGenericRows.lookup "(internal/reflectlite.rtype).Comparable").isNone = true ∧ (Extern.allTypedRows.lookup "(internal/reflectlite.rtype).Comparable").isNone = true ∧ Extern.allRows.lookup "(internal/reflectlite.rtype).Comparable" = some (extRow .comparable) := ⟨by kernel_rfl, by kernel_rfl, by kernel_rfl⟩
theorem row3 : (Extern.allGenericRows.lookup "internal/bytealg.IndexByteString").isNone = true ∧ (Extern.allTypedRows.lookup "internal/bytealg.IndexByteString").isNone = true ∧ Extern.allRows.lookup "internal/bytealg.IndexByteString" = some (extRow .indexByte) := ⟨by kernel_rfl, by kernel_rfl, by kernel_rfl⟩
theorem find_of {fn : Func} {n : String} {e : Ext} (hn : fn.name = n) (h : (Extern.allGenericRows.lookup n).isNone = true ∧ (Extern.allTypedRows.lookup n).isNone = true ∧ Extern.allRows.lookup n = some (extRow e)) : Extern.find fn = some (extRow e) := by
  obtain ⟨h1, h2, h3⟩ := h
  rw [Option.isNone_iff_eq_none] at h1 h2
  simp only [Extern.find, hn]
  rw [h1, h2, h3]
  rfl
theorem extV_ok {f : Nat} {args : List V} {xs : List Value} {v : V} (hr : HR P w0 r h w) (hv : VRs r args xs) (he : extV P f args = some v) : ∃ x, VR r v x ∧ (callFunc f ⟨xs⟩).run P w = .ok (.value x) w := by
  unfold extV at he
  split at he
  · cases he
  rename_i fn hfn
  split at he
  · cases he
  rename_i hb
  split at he
  · cases he
  rename_i hng
  split at he
  · cases he
  rename_i hnx
  split at he
  · cases he
  rename_i e heo
  obtain ⟨x, hx, hrun⟩ := extE_ok hr hv he
  have hn := extOf_row heo
  have hfind : Extern.find fn = some (extRow e) := by
    cases e with
    | typeOf => exact find_of hn row1
    | comparable => exact find_of hn row2
    | indexByte => exact find_of hn row3
    | same => exact find_of hn row4
  refine ⟨x, hx, ?_⟩
  have hng' : ¬ fn.name = "runtime.NumGoroutine" := by simpa using hng
  simp [callFunc, hfn, hb, hng', hnx, hfind, hrun, Result.andThen]
theorem digits_size : ∀ (n t : Nat) (acc : Array Value), (Extern.BytealgMakeNoZero.digits n t acc).size = acc.size + n
  | 0, _, acc => by simp [Extern.BytealgMakeNoZero.digits]
  | n + 1, t, acc => by rw [Extern.BytealgMakeNoZero.digits, digits_size n]; simp; omega
theorem extH_ok {f : Nat} {args : List V} {xs : List Value} {v : V} {h' : H} (hr : HR P w0 r h w) (hv : VRs r args xs) (he : extH P f args h = some (v, h')) :
    ∃ r' x w', HR P w0 r' h' w' ∧ r.le r' ∧ VR r' v x ∧ (callFunc f ⟨xs⟩).run P w = .ok (.value x) w' := by
  unfold extH at he
  split at he
  · rename_i v' hx
    cases he
    obtain ⟨x, h1, h2⟩ := extV_ok hr hv hx
    exact ⟨r, x, w, hr, r.le_refl, h1, h2⟩
  · split at he
    · rename_i fn hfn
      split at he
      · cases he
      rename_i hb
      split at he
      · cases he
      rename_i hnx
      split at he
      · rename_i hn
        have hn : fn.name = "internal/bytealg.MakeNoZero" := by simpa using hn
        split at he
        · rename_i n _
          split at he
          · rename_i t ht
            split at he
            · rename_i elem g hse
              split at he
              · rename_i hsm
                cases hv with
                | cons _ x _ y hx hy =>
                cases hy
                rw [hx.int_inv]
                obtain ⟨hu, hti⟩ := sliceElem_spec hse
                have hcell : P.cellsOf elem = 1 := (tyI_spec hti).2.2
                have hsm := small_spec hsm
                have hng' : ¬ fn.name = "runtime.NumGoroutine" := by rw [hn]; decide
                have hfind : Extern.find fn = some (Extern.BytealgMakeNoZero.makeNoZero fn.params fn.resultTypes) := by
                  obtain ⟨h1, h2⟩ := row5
                  rw [Option.isNone_iff_eq_none] at h1
                  simp only [Extern.find, hn]
                  rw [h1, h2]
                  rfl
                let cp := newCap w n 0 elem
                have hcp : n ≤ cp := newCap_le ..
                let q : Question := .extern "internal/bytealg.MakeNoZero.bytes" 0
                let by_ : Nat := q.cut (w.drew.tape w.drew.drawn q)
                let arr : Array Value := Extern.BytealgMakeNoZero.digits cp by_ #[]
                have harr : arr.size = cp := by simp [arr, digits_size]
                obtain ⟨h2', r', h1, h2, h3, h3', h5⟩ := newObjK_okc (k := fun b h => some (V.sl b 0 n (.upto 0), h)) (o := .cells arr elem) (ao := .cells elem true true n [.unk] .e) (kc := cp) hr.drew.drew ⟨arr, (0, 0), rfl, fun _ => no_fz _, fun i v hv => (by
                    rw [cellAt_eq, T.get_e] at hv
                    dsimp only at hv
                    split at hv
                    · rename_i hlt
                      cases hv
                      exact ⟨arr[i]'(by rw [harr]; omega), by rw [Ren.ext_sh, Nat.zero_add]; exact Array.getElem?_eq_getElem _, .unk _⟩
                    · cases hv), by rw [Ren.ext_sh, harr]; omega, fun _ => by rw [Ren.ext_sh, Ren.ext_cap, harr, hcell]; omega, fun h => by cases h⟩ he
                obtain ⟨h3a, h3b⟩ := h3
                cases h5
                refine ⟨r', .slice (some ⟨w.heap.size, 0, none⟩) n cp, _, h1, h2, .slu _ 0 _ 0 w.heap.size cp 0 h3a (by rw [h3b]; rfl) h3', ?_⟩
                have hmx : ¬ ((281474976710656 : Int) < (n : Int)) := by omega
                have hng : ¬ ((n : Int) < 0) := by omega
                have hdef : Extern.BytealgMakeNoZero.makeNoZero fn.params fn.resultTypes ⟨[.int .i64 (.ofNat n)]⟩ = (do
                    let some t := fn.resultTypes[0]? | stuck "bytealg.MakeNoZero: no result type"
                    let .slice elem ← underlying t | stuck "bytealg.MakeNoZero: slice type expected"
                    if (Int.ofNat n) < 0 || (Int.ofNat n) > 2 ^ 48 then runtimePanic (.error "makeslice: len out of range")
                    let cap ← choose (.appendCap (Int.ofNat n).toNat 0 elem)
                    askRoom cap
                    let bytes ← choose (.extern "internal/bytealg.MakeNoZero.bytes" 0)
                    let a ← newRow elem (Extern.BytealgMakeNoZero.digits cap bytes #[])
                    pure (.slice (some a) (Int.ofNat n).toNat cap)) := rfl
                have hrun : (Extern.BytealgMakeNoZero.makeNoZero fn.params fn.resultTypes ⟨[.int .i64 (.ofNat n)]⟩).run P w = .ok (.slice (some ⟨w.heap.size, 0, none⟩) n cp) (w.drew.drew.alloc (.cells arr elem)) := by
                  rw [hdef]
                  simp only [ht, Sem.run_bind, run_underlying hu, Result.andThen]
                  simp [hmx, hng, Question.forced, Result.andThen, newRow, cp, newCap, arr, by_, q]
                have hrun2 : (Extern.BytealgMakeNoZero.makeNoZero fn.params fn.resultTypes ⟨[.int .i64 (n : Int)]⟩).run P w = .ok (.slice (some ⟨w.heap.size, 0, none⟩) n cp) (w.drew.drew.alloc (.cells arr elem)) := hrun
                simp [callFunc, hfn, hb, hng', hnx, hfind, Result.andThen, hrun2]
              · cases he
            · cases he
          · cases he
        · cases he
      · cases he
    · cases he
end ops
end
end Go.Ev
