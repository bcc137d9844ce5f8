/- The step machine: appends, copies, texts as bytes, put together. -/
import Derived.Test.YthadnmpneonmfaaGreatDoorEvQ
namespace Go.Ev
open Go Go.RowKit
noncomputable section
section ops
variable {P : Program} {w0 : Base} {w : World} {r : Ren} {h : H} {tm : Nat → Option V} {ρ : Operand → Value}
variable {β : Type} {kv : V → H → Option β} {res : β}

theorem appendK_ok (hr : HR P w0 r h w) {t u ty : Nat} {s x : V} {S X : Value} {du : TypeDesc} (hs : VR r s S) (hx : VR r x X) (hu : P.underlying u = some du) (hdu : ∀ k, du ≠ .int k) (hk : appendK P h t s x none kv = some res) :
    ValOut P w0 r w (Builtin.append_ ⟨[t, u]⟩ ty ⟨[S, X]⟩) kv res := by
  unfold appendK at hk
  split at hk
  · cases hk
  rename_i elem esz g hse
  split at hk
  · cases hk
  rename_i by_ hby
  split at hk
  · cases hk
  rename_i hzk
  split at hk
  · cases hk
  rename_i new n hel
  simp only [Bool.and_eq_true] at hzk
  obtain ⟨i, zv, hi, hz, hzs⟩ := zeroOk_spec hzk.1
  have hpos : 1 ≤ esz := Nat.le_of_ble_eq_true hzk.2
  obtain ⟨i', hi', hb⟩ := bytesT_spec hby
  obtain rfl : i' = i := by rw [hi] at hi'; exact (Option.some.inj hi').symm
  have hcell : P.cellsOf elem = esz := (tyI_spec (sliceElem_spec hse).2).2.2
  obtain ⟨hlen, hnl, hfc⟩ := elemsOf_ok (P := P) hr hx hel
  obtain ⟨xn, hvn, hrn⟩ := hfc n (Nat.le_refl _)
  rw [← hnl, List.take_length] at hvn
  split at hk
  · -- nil
    rw [hs.nils_inv]
    split at hk
    · exact ⟨.nils, h, r, _, w, hr, r.le_refl, .nils, append_nil hse hu hdu hlen ⟨_, hrn w rfl⟩, hk⟩
    · split at hk
      · cases hk
      rename_i m _ hsm
      rw [nfsK_eq] at hk
      have hsm := small_spec hsm
      have hsm' : (0 + (m + 1)) * (by_ + 1) ≤ 100000000 := by rw [Nat.zero_add]; exact hsm
      obtain ⟨v, h', r', h1, h2, h3, h4⟩ := fresh_ok hr (xs := ⟨xn⟩) (zv := zv) (cp := newCap w (0 + (m + 1)) 0 elem) hvn hzs hcell hnl (by have := newCap_le w (0 + (m + 1)) 0 elem; omega) hk
      have hrun := append_new (w := w) (ty := ty) (base := none) (sLen := 0) (sCap := 0) (old := []) hse hu hdu hi hz hb hsm' hlen (by omega) (by simp [Builtin.firstCells]) (hrn _ rfl)
      refine ⟨v, h', r', _, _, h1, h2, h3, ?_, h4⟩
      rw [hrun]
      simp
  · -- a slice
    rename_i b off len cap
    split at hk
    · cases hk
    rename_i hsm
    have hsm := small_spec hsm
    obtain ⟨c, cp, rfl, hc, hcap⟩ := hs.sl_inv
    split at hk
    · -- its room is known
      rename_i cc
      obtain rfl : cp = cc := hcap
      split at hk
      · rename_i hle
        have hle := Nat.le_of_ble_eq_true hle
        rw [nfsK_eq] at hk
        obtain ⟨h', w', h1, h2, h3, _⟩ := storeK_ok hr hc hvn hk
        rw [natK_eq] at h3
        exact ⟨_, h', r, _, w', h1, r.le_refl, .slx _ _ _ _ _ hc, append_in hse hu hdu hlen hle (hrn w rfl) h2, h3⟩
      · rename_i hle
        split at hk
        · cases hk
        rename_i old hold
        rw [nfsK_eq] at hk
        have hgt : cp < len + n := by
          have : ¬ (len + n ≤ cp) := fun hh => by have this : Nat.ble (Nat.add len n) cp = true := Nat.ble_eq_true_of_le hh; rw [hle] at this; cases this
          omega
        obtain ⟨xo, hvo, hlo, hro⟩ := loadN_all (P := P) hr hc hold
        obtain ⟨v, h', r', h1, h2, h3, h4⟩ := fresh_ok hr (xs := ⟨xo⟩ ++ ⟨xn⟩) (zv := zv) (cp := newCap w (len + n) cp elem) (by simpa using hvo.append hvn) hzs hcell (by simp [hlo, hnl, Nat.add_mul]) (newCap_le ..) hk
        exact ⟨v, h', r', _, _, h1, h2, h3, append_new hse hu hdu hi hz hb hsm hlen hgt (by simpa [Builtin.firstCells] using hro w.drew rfl) (hrn _ rfl), h4⟩
    · rename_i j
      split at hk
      · cases hk
      rename_i kn hkn
      obtain ⟨e', rw', size, z, tt, hbk, hoff, hle0, _, hkn', hesz⟩ := known_spec hkn
      obtain ⟨cs, fz, _, _, _, h7, h8⟩ := hr.cells hbk hc
      have hkc : kn ≤ cp := known_le h7 (h8 rfl) hcap hoff hkn' (by omega) hesz
      split at hk
      · rename_i hle
        have hle := Nat.le_of_ble_eq_true hle
        rw [nfsK_eq] at hk
        obtain ⟨h', w', h1, h2, h3, _⟩ := storeK_ok hr hc hvn hk
        rw [natK_eq] at h3
        exact ⟨_, h', r, _, w', h1, r.le_refl, .slu _ _ _ _ _ _ hc hcap, append_in hse hu hdu hlen (Nat.le_trans hle hkc) (hrn w rfl) h2, h3⟩
      · split at hk
        · split at hk
          · cases hk
          rename_i old hold
          split at hk
          · rename_i e2 size2 z2 tt2 hb2
            split at hk
            · rename_i hcond
              simp only [Bool.and_eq_true] at hcond
              have hee := Nat.eq_of_beq_eq_true hcond.1; subst hee
              rw [nfsK_eq] at hk
              obtain ⟨xo, hvo, hlo, hro⟩ := loadN_all (P := P) hr hc hold
              have hro2 : ∀ d : World, d.heap = w.heap → (Builtin.firstCells esz len (.slice (some ⟨c, 0, none⟩) len cp)).run P d = .ok ⟨xo⟩ d := fun d hd => by simpa [Builtin.firstCells] using hro d hd
              refine grow_ok hr hse hu hdu hi hz hb hzs hsm hlen hb2 hc hcap hvo hlo hro2 hvn hnl hrn hcond.2 ?_ hk
              intro i v hv
              have hold' := hold
              unfold loadN at hold'
              rw [hb2] at hold'
              obtain ⟨m, e, _, hm⟩ := cellsAt_spec tt2 size2 z2 0 _ [] old hold'
              simp at e; subst e
              have := hm i v hv
              rwa [Nat.zero_add] at this
            · cases hk
          · cases hk
        · cases hk
  · cases hk
theorem copyK_ok (hr : HR P w0 r h w) {t ty : Nat} {ts : List Nat} {d s : V} {D S : Value} (hd : VR r d D) (hs : VR r s S) (hk : copyK P h t d s none kv = some res) :
    ValOut P w0 r w (Builtin.copy_ ⟨t :: ts⟩ ty ⟨[D, S]⟩) kv res := by
  unfold copyK at hk
  split at hk
  · cases hk
  rename_i elem esz g hse
  obtain ⟨hu', ht⟩ := sliceElem_spec hse
  obtain ⟨_, hsz, _⟩ := tyI_spec ht
  split at hk
  · split at hk
    · rename_i ln hel
      obtain ⟨l, n⟩ := ln
      rw [hd.nils_inv]
      obtain ⟨hlen, _, hfc⟩ := elemsOf_ok (P := P) hr hs hel
      obtain ⟨xs, _, hrun⟩ := hfc 0 (by omega)
      refine ⟨_, h, r, _, w, hr, r.le_refl, .int _ _, ?_, hk⟩
      simp [Builtin.copy_, run_underlying hu', hsz, hlen, hrun w rfl, Result.andThen, goInt]
    · cases hk
  · split at hk
    · rename_i ln hel
      obtain ⟨l, n⟩ := ln
      obtain ⟨a, m, rfl⟩ := hd.emp_inv
      obtain ⟨hlen, _, hfc⟩ := elemsOf_ok (P := P) hr hs hel
      obtain ⟨xs, hv, hrun⟩ := hfc 0 (by omega)
      have hx : xs = [] := by
        have := hv.length
        simp at this
        exact List.eq_nil_of_length_eq_zero this.symm
      refine ⟨_, h, r, _, w, hr, r.le_refl, .int _ _, ?_, hk⟩
      subst hx
      simp [Builtin.copy_, run_underlying hu', hsz, hlen, hrun w rfl, Result.andThen, goInt, storeCells]
    · cases hk
  · rename_i b off len cap
    split at hk
    · cases hk
    rename_i l n hel
    obtain ⟨c, cp, rfl, hc, _⟩ := hd.sl_inv
    obtain ⟨hlen, _, hfc⟩ := elemsOf_ok (P := P) hr hs hel
    obtain ⟨xs, hv, hrun⟩ := hfc (Nat.min n len) (Nat.min_le_left _ _)
    rw [natK_eq, nfsK_eq] at hk
    obtain ⟨h', w', h1, h2, h3, _⟩ := storeK_ok hr hc hv hk
    refine ⟨_, h', r, _, w', h1, r.le_refl, .int _ _, ?_, h3⟩
    simp [Builtin.copy_, run_underlying hu', hsz, hlen, hrun w rfl, Result.andThen, goInt, h2]
  · cases hk
/-- A text as bytes: a row with room behind it; behind its end it is marked. -/
theorem bytes_ok (hr : HR P w0 r h w) {src dst elem : Nat} {ds : TypeDesc} {s : List Nat} {y : Value} (hy : VR r (.str s) y) (hsrc : P.underlying src = some ds) (hds : ds = .string) (hdst : sliceElem P dst = some (elem, 1, false)) (hel : P.underlying elem = some (.int .u8))
    (hk : freshK h elem (s.map fun b => .int .u8 (.ofNat b)) s.length kv = some res) : ValOut P w0 r w (convert src dst y) kv res := by
  subst hds
  obtain ⟨x, rfl, hx⟩ := hy.str_inv
  obtain ⟨hu', ht⟩ := sliceElem_spec hdst
  have hcell : P.cellsOf elem = 1 := (tyI_spec ht).2.2
  unfold freshK at hk
  have hsize : x.size = s.length := by rw [← hx, size_data]
  let cp := newCap w x.size 0 elem
  have hcp : x.size ≤ cp := newCap_le ..
  let arr : Array Value := x.data.map (fun b => Value.int .u8 b.toNat) ++ Array.replicate (cp - x.size) (.int .u8 0)
  have harr : arr.size = cp := by
    show (x.data.map _ ++ Array.replicate _ _).size = cp
    rw [Array.size_append, Array.size_map, Array.size_replicate]
    have : x.data.size = x.size := rfl
    omega
  have hv : VRs r (s.map fun b => V.int .u8 (.ofNat b)) (x.data.map (fun b => Value.int .u8 b.toNat)).toList := by
    rw [Array.toList_map, ← hx, List.map_map]
    generalize x.data.toList = z
    induction z with
    | nil => exact .nil
    | cons a z ih => exact .cons _ _ _ _ (.int .u8 _) ih
  obtain ⟨h', r', h1, h2, h3, h4, h5⟩ := newK_ok (xs := arr) (kcap := cp) (fz := (cp, cp + 1)) hr.drew hv (fun i q hq => by
      have hi : i < (x.data.map (fun b => Value.int .u8 b.toNat)).size := by simpa using (List.getElem?_eq_some_iff.1 hq).1
      show (x.data.map _ ++ Array.replicate _ _)[i]? = _
      rw [Array.getElem?_append_left hi]; simpa using hq) (by rw [harr]; simpa [← hsize] using hcp) (fun i hi => by rw [harr] at hi; simp; omega) (fun _ => by rw [harr, hcell]; omega) hk
  rw [natK_eq] at h5
  refine ⟨_, h', r', .slice (some ⟨w.heap.size, 0, none⟩) x.size cp, _, h1, h2, by rw [hsize]; exact .slu _ 0 _ 0 _ _ h3 (by rw [h4]; rfl), ?_, h5⟩
  have e : bytesRow x (grownCap w x.size 0 elem) = arr := rfl
  rw [run_bytes_of_string w src dst elem x hsrc hu' hel, e, harr]
  rfl
end ops
end
end Go.Ev
