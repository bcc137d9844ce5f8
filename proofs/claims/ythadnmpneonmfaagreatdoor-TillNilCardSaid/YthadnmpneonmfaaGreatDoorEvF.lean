/- The step machine: what an operation that only reads gives. -/
import Derived.Test.YthadnmpneonmfaaGreatDoorEvE
namespace Go.Ev
open Go Go.RowKit
noncomputable section
section ops
variable {P : Program} {w0 : Base} {w : World} {r : Ren} {h : H} {tm : Nat → Option V} {ρ : Operand → Value}

theorem andThen_ok {α β : Type} (a : α) (w : World) (f : α → World → Result β) : (Result.ok a w).andThen f = f a w := rfl
theorem exec_v {s : Sem Value} {x : Value} {w' : World} (hs : s.run P w = .ok x w') : (do pure (Next.value (← s)) : Sem Next).run P w = .ok (.value x) w' := by
  simp [hs, Result.andThen]
theorem zeroV_spec {t : Nat} {z : V} (hz : zeroV P t = some z) : ∃ i zv, P.info? t = some i ∧ i.zero = some zv ∧ VR r z zv ∧ VRs r z.cells zv.cells.toList := by
  unfold zeroV at hz
  split at hz
  · rename_i i hi
    split at hz
    · rename_i zv hzv
      exact ⟨i, zv, hi, hzv, ofVal_ok hz, (ofVal_ok hz).cells (ofVal_ne hz)⟩
    · cases hz
  · cases hz
theorem run_zeroValue {t : Nat} {i : TypeInfo} {zv : Value} (hi : P.info? t = some i) (hz : i.zero = some zv) (w : World) : (zeroValue t).run P w = .ok zv w := by
  simp [zeroValue, typeInfo, hi, hz, Result.andThen]
theorem placesL_ok : ∀ {l : List Field} {pl : List (Nat × Nat)}, placesL P l = some pl → l.mapM (fun f => (P.info? f.type).map fun i => (f.offset, i.size)) = some pl
  | [], _, h => by cases h; rfl
  | f :: fs, pl, h => by
    simp only [placesL] at h
    split at h
    · rename_i i hi
      split at h
      · rename_i l hl
        cases h
        simp [List.mapM_cons, hi, placesL_ok hl]
      · cases h
    · cases h
theorem build_ok {t : Nat} {ps : List (Nat × V)} {xs : List (Nat × Value)} {v : V} (hp : PRs r ps xs) (hb : buildV P t ps = some v) : ∃ x, VR r v x ∧ (Instr.build t ⟨xs⟩).run P w = .ok x w := by
  unfold buildV at hb
  split at hb
  · rename_i z hz
    obtain ⟨i, zv, hi, hzv, _, hcs⟩ := zeroV_spec (r := r) hz
    split at hb
    · rename_i fs hu
      split at hb
      · rename_i pl hpl
        split at hb
        · rename_i l hl
          cases hb
          have hpl' := hpl
          simp only [placesT, hu] at hpl'
          obtain ⟨arr, e1, e2⟩ := fillL_ok (place' := (pl.toArray[·]?)) (fun i p hp => by simpa using hp) hp hcs hl
          refine ⟨.agg arr, .agg l arr.toList e2, run_build w t ⟨xs⟩ arr ?_⟩
          simp only [Program.built, hi, hu, hzv, placesL_ok hpl']
          exact e1
        · cases hb
      · cases hb
    · rename_i n elem hu
      split at hb
      · rename_i g n' ht
        split at hb
        · rename_i l hl
          cases hb
          unfold tyI at ht
          split at ht
          · rename_i d ie hd hie
            simp only [Option.some.injEq, Prod.mk.injEq] at ht
            obtain ⟨arr, e1, e2⟩ := fillL_ok (place' := fun i => some (i * ie.size, ie.size)) (fun i p hp => by rw [← ht.2] at hp; exact hp) hp hcs hl
            refine ⟨.agg arr, .agg l arr.toList e2, run_build w t ⟨xs⟩ arr ?_⟩
            simp only [Program.built, hi, hu, hzv, hie]
            exact e1
          · cases ht
        · cases hb
      · cases hb
    · cases hb
  · cases hb
theorem part_ok {t off n : Nat} {g : Bool} {l : List V} {xs : List Value} {v : V} (ht : tyI P t = some (g, n)) (hv : VRs r l xs) (hp : part g l off n = some v) : ∃ x, VR r v x ∧ (Go.part t ⟨xs⟩ off).run P w = .ok x w := by
  obtain ⟨h1, h2, _⟩ := tyI_spec ht
  cases g with
  | true =>
    cases hp
    refine ⟨.agg ⟨(xs.drop off).take n⟩, .agg _ _ ((hv.drop off).take n), ?_⟩
    unfold Go.part
    simp only [Sem.run_bind, h1, h2, andThen_ok, if_true, Sem.run_pure]
    congr 2
    apply Array.ext'
    simp [Array.toList_extract, List.extract]
  | false =>
    obtain ⟨x, hx, hvr⟩ := hv.get hp
    refine ⟨x, hvr, ?_⟩
    unfold Go.part
    simp [h1, Result.andThen, hx]
theorem fieldI_spec {t f o n : Nat} {g : Bool} (hf : fieldI P t f = some (o, n, g)) : ∃ fs fd, P.underlying t = some (.struct fs) ∧ fs[f]? = some fd ∧ fd.offset = o ∧ tyI P fd.type = some (g, n) := by
  unfold fieldI at hf
  split at hf
  · rename_i fs hu
    split at hf
    · rename_i fd hfd
      split at hf
      · rename_i g' n' ht
        simp only [Option.some.injEq, Prod.mk.injEq] at hf
        obtain ⟨h1, h2, h3⟩ := hf
        subst h1 h2 h3
        exact ⟨fs, fd, hu, hfd, rfl, ht⟩
      · cases hf
    · cases hf
  · cases hf
theorem fieldAt_ok {t f o n b off c : Nat} {g : Bool} (hf : fieldI P t f = some (o, n + 1, g)) : (Instr.fieldAt t (.pointer (some ⟨c, off, none⟩)) f).run P w = .ok (.pointer (some ⟨c, off + o, none⟩)) w := by
  obtain ⟨fs, fd, hu, hfd, rfl, ht⟩ := fieldI_spec hf
  obtain ⟨_, h2, _⟩ := tyI_spec ht
  simp [Instr.fieldAt, run_underlying hu, hfd, Instr.sureAddr, fieldPlace, h2, Result.andThen, add_none]
theorem field_ok {t f o n : Nat} {g : Bool} {l : List V} {xs : List Value} {v : V} (hf : fieldI P t f = some (o, n, g)) (hv : VRs r l xs) (hp : part g l o n = some v) : ∃ x, VR r v x ∧ (Instr.field t (.agg ⟨xs⟩) f).run P w = .ok x w := by
  obtain ⟨fs, fd, hu, hfd, rfl, ht⟩ := fieldI_spec hf
  obtain ⟨x, hx, hr⟩ := part_ok (w := w) ht hv hp
  exact ⟨x, hx, by simp [Instr.field, run_underlying hu, hfd, asAgg, hr, Result.andThen]⟩
theorem sliceElem_spec {t elem n : Nat} {g : Bool} (hs : sliceElem P t = some (elem, n, g)) : P.underlying t = some (.slice elem) ∧ tyI P elem = some (g, n) := by
  unfold sliceElem at hs
  split at hs
  · rename_i e hu
    split at hs
    · rename_i g' n' ht
      simp only [Option.some.injEq, Prod.mk.injEq] at hs
      obtain ⟨h1, h2, h3⟩ := hs
      subst h1 h2 h3
      exact ⟨hu, ht⟩
    · cases hs
  · cases hs
theorem indexAt_sl {t elem n i len cp c off : Nat} {k : IntKind} {g : Bool} (hs : sliceElem P t = some (elem, n, g)) (hi : i < len) :
    (Instr.indexAt t (.slice (some ⟨c, off, none⟩) len cp) (.int k (.ofNat i))).run P w = .ok (.pointer (some ⟨c, off + i * n, none⟩)) w := by
  obtain ⟨hu, ht⟩ := sliceElem_spec hs
  obtain ⟨_, h2, _⟩ := tyI_spec ht
  simp [Instr.indexAt, asIntOf, run_underlying hu, h2, Result.andThen, hi, add_none]
theorem indexAt_arr {t elem n m i c off : Nat} {k : IntKind} {g : Bool} (hu : P.underlying t = some (.array m elem)) (ht : tyI P elem = some (g, n)) (hi : i < m) :
    (Instr.indexAt t (.pointer (some ⟨c, off, none⟩)) (.int k (.ofNat i))).run P w = .ok (.pointer (some ⟨c, off + i * n, none⟩)) w := by
  obtain ⟨_, h2, _⟩ := tyI_spec ht
  simp [Instr.indexAt, asIntOf, run_underlying hu, h2, Result.andThen, hi, add_none, Instr.sureAddr]
theorem index_str {t i b : Nat} {k : IntKind} {x : ByteArray} (hu : P.underlying t = some .string) (hb : (x.data.toList.map UInt8.toNat)[i]? = some b) :
    (Instr.index t (.string x) (.int k (.ofNat i))).run P w = .ok (.int .u8 (.ofNat b)) w := by
  rw [List.getElem?_map] at hb
  cases hx : x.data.toList[i]? with
  | none => rw [hx] at hb; cases hb
  | some u =>
    rw [hx] at hb; cases hb
    have hlt : i < x.size := by
      have := (List.getElem?_eq_some_iff.1 hx).1
      simpa using this
    have e : x[i]? = some u := by
      rw [Go.ByteArray.getElem?_lt' x i hlt]
      have : x.data[i]? = some u := by simpa using hx
      rw [Array.getElem?_eq_getElem (by simpa using hlt)] at this
      have this : x.data[i]'(by simpa using hlt) = u := by simpa using this
      exact congrArg some this
    simp [Instr.index, asIntOf, run_underlying hu, Result.andThen, e]
theorem index_arr {t elem n m i : Nat} {k : IntKind} {g : Bool} {l : List V} {xs : List Value} {v : V} (hu : P.underlying t = some (.array m elem)) (ht : tyI P elem = some (g, n)) (hi : i < m) (hv : VRs r l xs)
    (hp : part g l (i * n) n = some v) : ∃ x, VR r v x ∧ (Instr.index t (.agg ⟨xs⟩) (.int k (.ofNat i))).run P w = .ok x w := by
  obtain ⟨_, h2, _⟩ := tyI_spec ht
  obtain ⟨x, hx, hr⟩ := part_ok (w := w) ht hv hp
  exact ⟨x, hx, by simp [Instr.index, asIntOf, run_underlying hu, h2, Result.andThen, hi, hr]⟩

-- slices
theorem optNat_none {d n : Nat} (ho : optNat tm none d = some n) : n = d := (Option.some.inj ho).symm
theorem optNat_some (he : ER r tm ρ) {x : Operand} {d n : Nat} (ho : optNat tm (some x) d = some n) : ∃ k, ρ x = .int k (n : Int) := by
  simp only [optNat] at ho
  split at ho
  · rename_i k m hx
    cases ho
    exact ⟨k, (he x _ hx).int_inv⟩
  · cases ho
theorem sliceBound_run {k : IntKind} {n y : Nat} {code : BoundsCode} (hn : n ≤ y) : (Instr.sliceBound (.int k (n : Int)) y code).run P w = .ok n w := by
  simp [Instr.sliceBound, asIntOf, Result.andThen, hn]
theorem bounds_run (he : ER r tm ρ) {s : Bool} {len cap m hh l : Nat} {lo hi mx : Option Operand} (hk : hiOk hi mx = true) (hm : optNat tm mx cap = some m) (hh' : optNat tm hi len = some hh) (hl : optNat tm lo 0 = some l)
    (h1 : l ≤ hh) (h2 : hh ≤ m) (h3 : m ≤ cap) (h4 : hi = none → hh ≤ cap) : (Instr.sliceBounds s len cap (lo.map ρ) (hi.map ρ) (mx.map ρ)).run P w = .ok (l, hh, m) w := by
  cases mx with
  | none =>
    have := optNat_none hm; subst this
    cases hi with
    | none =>
      have := optNat_none hh'; subst this
      cases lo with
      | none => have := optNat_none hl; subst this; simp [Instr.sliceBounds, Result.andThen]
      | some x => obtain ⟨k, e⟩ := optNat_some he hl; simp [Instr.sliceBounds, Result.andThen, e, sliceBound_run h1]
    | some y =>
      obtain ⟨k', e'⟩ := optNat_some he hh'
      cases lo with
      | none => have := optNat_none hl; subst this; simp [Instr.sliceBounds, Result.andThen, e', sliceBound_run h2]
      | some x => obtain ⟨k, e⟩ := optNat_some he hl; simp [Instr.sliceBounds, Result.andThen, e, e', sliceBound_run h1, sliceBound_run h2]
  | some z =>
    obtain ⟨k2, e2⟩ := optNat_some he hm
    cases hi with
    | none => cases hk
    | some y =>
      obtain ⟨k', e'⟩ := optNat_some he hh'
      cases lo with
      | none => have := optNat_none hl; subst this; simp [Instr.sliceBounds, Result.andThen, e', e2, sliceBound_run h2, sliceBound_run h3]
      | some x => obtain ⟨k, e⟩ := optNat_some he hl; simp [Instr.sliceBounds, Result.andThen, e, e', e2, sliceBound_run h1, sliceBound_run h2, sliceBound_run h3]
theorem addr_if {c off l m esz : Nat} : (if m = l then (⟨c, off, none⟩ : Addr) else Addr.add ⟨c, off, none⟩ (l * esz)) = ⟨c, match Nat.beq m l with | true => off | false => Nat.add off (Nat.mul l esz), none⟩ := by
  cases hb : Nat.beq m l with
  | true => rw [if_pos (Nat.eq_of_beq_eq_true hb)]
  | false => rw [if_neg (Nat.ne_of_beq_eq_false hb), add_none]; rfl
theorem known_spec {b off esz j kn : Nat} (hk : known P h b off esz j = some kn) :
    ∃ e rw size z t, h.t.get b = some (.cells e rw true size z t) ∧ off = j * esz ∧ off ≤ size ∧ 0 < esz ∧ kn = (size - off) / esz ∧ P.cellsOf e = esz := by
  unfold known at hk
  split at hk
  · rename_i e rw opn size z t hb
    split at hk
    · rename_i g n ht
      split at hk
      · rename_i e' hcond
        simp only [Bool.and_eq_true] at hcond
        cases hk
        have h1 := Nat.le_of_ble_eq_true hcond.1
        have h2 := Nat.eq_of_beq_eq_true hcond.2.2.1
        have h3 := Nat.eq_of_beq_eq_true hcond.2.2.2
        refine ⟨e, rw, size, z, t, ?_, h2, h1, by omega, rfl, (tyI_spec ht).2.2.trans h3⟩
        rw [hb]; congr 2; exact hcond.2.1
      · cases hk
    · cases hk
  · cases hk
theorem known_le {cs size cp cap off j esz kn n : Nat} (h7 : size ≤ cs) (h8 : cs = cap * n) (hcap : cp + j = cap) (hoff : off = j * esz) (hk : kn = (size - off) / esz) (hpos : 0 < esz) (hn : n = esz) : kn ≤ cp := by
  subst hn
  rw [hk]
  have h : size - off ≤ cp * n := by
    rw [h8, ← hcap, Nat.add_mul] at h7
    omega
  exact Nat.le_trans (Nat.div_le_div_right h) (by rw [Nat.mul_div_cancel _ hpos]; exact Nat.le_refl _)
theorem sliceStr_ok (he : ER r tm ρ) {t : Nat} {s : ByteArray} {lo hi : Option Operand} {hh l : Nat} (hu : P.underlying t = some .string) (hk : hiOk hi none = true)
    (hh' : optNat tm hi s.size = some hh) (hl : optNat tm lo 0 = some l) (h1 : l ≤ hh) (h2 : hh ≤ s.size) :
    (Instr.slice t (.string s) (lo.map ρ) (hi.map ρ) none).run P w = .ok (.string (s.extract l hh)) w := by
  have := bounds_run (P := P) (w := w) he (s := false) (cap := s.size) (mx := none) hk rfl hh' hl h1 h2 (Nat.le_refl _) (fun _ => h2)
  simp only [Option.map_none] at this
  simp [Instr.slice, run_underlying hu, Result.andThen, this]
theorem slice_run (he : ER r tm ρ) {t elem esz c off len cap : Nat} {g : Bool} {lo hi mx : Option Operand} {m hh l : Nat} (hu : P.underlying t = some (.slice elem)) (ht : tyI P elem = some (g, esz)) (hk : hiOk hi mx = true)
    (hm : optNat tm mx cap = some m) (hh' : optNat tm hi len = some hh) (hl : optNat tm lo 0 = some l) (h1 : l ≤ hh) (h2 : hh ≤ m) (h3 : m ≤ cap) :
    (Instr.slice t (.slice (some ⟨c, off, none⟩) len cap) (lo.map ρ) (hi.map ρ) (mx.map ρ)).run P w =
      .ok (.slice (some ⟨c, match Nat.beq m l with | true => off | false => Nat.add off (Nat.mul l esz), none⟩) (hh - l) (m - l)) w := by
  obtain ⟨_, h5, _⟩ := tyI_spec ht
  have := bounds_run (P := P) (w := w) he (s := true) hk hm hh' hl h1 h2 h3 (fun _ => by omega)
  rw [← addr_if]
  simp only [Instr.slice, Sem.run_bind, run_underlying hu, this, h5, andThen_ok, Sem.run_pure, Option.map_some]
  split <;> rfl
theorem sliceAt_run (he : ER r tm ρ) {t elem esz c off n : Nat} {g : Bool} {lo hi mx : Option Operand} {m hh l : Nat} (hu : P.underlying t = some (.array n elem)) (ht : tyI P elem = some (g, esz)) (hk : hiOk hi mx = true)
    (hm : optNat tm mx n = some m) (hh' : optNat tm hi n = some hh) (hl : optNat tm lo 0 = some l) (h1 : l ≤ hh) (h2 : hh ≤ m) (h3 : m ≤ n) :
    (Instr.sliceAt t (.pointer (some ⟨c, off, none⟩)) (lo.map ρ) (hi.map ρ) (mx.map ρ)).run P w =
      .ok (.slice (some ⟨c, match Nat.beq m l with | true => off | false => Nat.add off (Nat.mul l esz), none⟩) (hh - l) (m - l)) w := by
  obtain ⟨_, h5, _⟩ := tyI_spec ht
  have := bounds_run (P := P) (w := w) he (s := false) hk hm hh' hl h1 h2 h3 (fun _ => by omega)
  rw [← addr_if]
  simp only [Instr.sliceAt, Sem.run_bind, run_underlying hu, this, h5, andThen_ok, Sem.run_pure, Instr.sureAddr]
theorem sliceV_ok (hr : HR P w0 r h w) (he : ER r tm ρ) {t : Nat} {x v : V} {y : Value} {lo hi mx : Option Operand} (hx : VR r x y) (hk : hiOk hi mx = true) (hs : sliceV P tm h t x lo hi mx = some v) :
    ∃ u, VR r v u ∧ (Instr.slice t y (lo.map ρ) (hi.map ρ) (mx.map ρ)).run P w = .ok u w := by
  unfold sliceV at hs
  split at hs
  · -- a text
    rename_i s hu
    obtain ⟨z, rfl, hz⟩ := hx.str_inv
    subst hz
    cases mx with
    | some _ => cases hs
    | none =>
      dsimp only at hs
      rw [size_data] at hs
      split at hs
      · rename_i hh hhh
        split at hs
        · rename_i l hl
          split at hs
          · rename_i h1
            split at hs
            · rename_i h2
              cases hs
              refine ⟨.string (z.extract l hh), .str _ _ (extract_data z l hh), ?_⟩
              exact sliceStr_ok he hu hk hhh hl (Nat.le_of_ble_eq_true h1) (Nat.le_of_ble_eq_true h2)
            · cases hs
          · cases hs
        · cases hs
      · cases hs
  · -- nil
    rename_i e hu
    obtain rfl := hx.nils_inv
    split at hs
    · rename_i gn hm ht
      split at hs
      · rename_i hh
        split at hs
        · rename_i hl
          cases hs
          refine ⟨.slice none 0 0, .nils, ?_⟩
          have := bounds_run (P := P) (w := w) he (s := true) (len := 0) (cap := 0) hk hm hh hl (Nat.le_refl _) (Nat.le_refl _) (Nat.le_refl _) (fun _ => Nat.le_refl _)
          obtain ⟨g, n⟩ := gn
          obtain ⟨_, h5, _⟩ := tyI_spec ht
          simp [Instr.slice, run_underlying hu, this, h5, Result.andThen]
        · cases hs
      · cases hs
    · cases hs
  · rename_i e b off len cap hu
    obtain ⟨c, cp, rfl, hc, hcap⟩ := hx.sl_inv
    split at hs
    · cases hs
    · rename_i g esz ht
      split at hs
      · -- its room is known
        rename_i k
        obtain rfl : cp = k := hcap
        split at hs
        · cases hs
        rename_i m hm
        split at hs
        · cases hs
        rename_i hh hhh
        split at hs
        · cases hs
        rename_i l hl
        split at hs
        · cases hs
        rename_i h1
        split at hs
        · cases hs
        rename_i h2
        split at hs
        · cases hs
        rename_i h3
        cases hs
        exact ⟨_, .slx _ _ _ _ _ hc, slice_run he hu ht hk hm hhh hl (Nat.le_of_ble_eq_true h1) (Nat.le_of_ble_eq_true h2) (Nat.le_of_ble_eq_true h3)⟩
      · rename_i j
        split at hs
        · cases hs
        · rename_i kn hkn
          obtain ⟨e', rw', size, z, t', hb, hoff, hle, hpos, hkn', hesz⟩ := known_spec hkn
          obtain ⟨cs, fz, _, _, _, h7, h8⟩ := hr.cells hb hc
          have h8' := h8 rfl
          have hkc : kn ≤ cp := known_le h7 h8' hcap hoff hkn' hpos hesz
          split at hs
          · rename_i mo
            split at hs
            · cases hs
            rename_i m hm
            split at hs
            · cases hs
            rename_i hh hhh
            split at hs
            · cases hs
            rename_i l hl
            split at hs
            · cases hs
            rename_i h1
            split at hs
            · cases hs
            rename_i h2
            split at hs
            · cases hs
            rename_i h3
            cases hs
            have hm' : optNat tm (some mo) cp = some m := hm
            exact ⟨_, .slx _ _ _ _ _ hc, slice_run he hu ht hk hm' hhh hl (Nat.le_of_ble_eq_true h1) (Nat.le_of_ble_eq_true h2) (Nat.le_trans (Nat.le_of_ble_eq_true h3) hkc)⟩
          · split at hs
            · cases hs
            rename_i hh hhh
            split at hs
            · cases hs
            rename_i l hl
            split at hs
            · cases hs
            rename_i h1
            split at hs
            · cases hs
            rename_i h2
            have h1 := Nat.le_of_ble_eq_true h1
            have h2 := Nat.le_of_ble_eq_true h2
            have hrun := slice_run (P := P) (w := w) (c := c) (off := off) (mx := none) he hu ht hk (cap := cp) rfl hhh hl h1 (Nat.le_trans h2 hkc) (Nat.le_refl _)
            cases l with
            | zero =>
              cases hs
              refine ⟨_, ?_, hrun⟩
              cases cp with
              | zero => exact .slu _ _ _ _ _ _ hc hcap
              | succ cp =>
                show VR r _ (Value.slice (some ⟨c, Nat.add off (Nat.mul 0 esz), none⟩) (hh - 0) (cp + 1 - 0))
                rw [show Nat.add off (Nat.mul 0 esz) = off by simp]
                exact .slu _ _ _ _ _ _ hc hcap
            | succ l' =>
              dsimp only at hs
              split at hs
              · rename_i h5
                have h5 := Nat.le_of_ble_eq_true h5
                cases hs
                refine ⟨_, ?_, hrun⟩
                have hne : Nat.beq cp (l' + 1) = false := by
                  cases hb' : Nat.beq cp (l' + 1) with
                  | false => rfl
                  | true => have := Nat.eq_of_beq_eq_true hb'; omega
                rw [hne]
                exact .slu _ _ _ _ _ _ hc (by show cp - (l' + 1) + (j + (l' + 1)) = _; omega)
              · cases hs
                rename_i h5
                have h6 : hh = l' + 1 := by
                  have : ¬ (l' + 2 ≤ kn) := fun hle => by
                    have := Nat.ble_eq_true_of_le hle
                    rw [h5] at this; cases this
                  omega
                subst h6
                refine ⟨_, ?_, hrun⟩
                rw [Nat.sub_self]
                exact .emp _ _
  · cases hs
end ops
end
end Go.Ev
