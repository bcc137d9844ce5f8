/- The step machine: what an operation that only reads gives, all of them. -/
import Derived.Test.YthadnmpneonmfaaGreatDoorEvF
namespace Go.Ev
open Go Go.RowKit
noncomputable section
section ops
variable {P : Program} {w0 : Base} {w : World} {r : Ren} {h : H} {tm : Nat → Option V} {ρ : Operand → Value}

theorem sliceAtV_ok (hr : HR P w0 r h w) (he : ER r tm ρ) {t : Nat} {x v : V} {y : Value} {lo hi mx : Option Operand} (hx : VR r x y) (hs : sliceAtV P tm h t x lo hi mx = some v) :
    ∃ u, VR r v u ∧ (Instr.sliceAt t y (lo.map ρ) (hi.map ρ) (mx.map ρ)).run P w = .ok u w := by
  unfold sliceAtV at hs
  split at hs
  · cases hs
  rename_i hk
  cases hu : P.underlying t with
  | none =>
    rw [hu] at hs
    dsimp only at hs
    unfold sliceV at hs
    rw [hu] at hs
    cases x <;> cases hs
  | some d =>
    rw [hu] at hs
    have hgen : (∀ n e, d ≠ .array n e) → sliceV P tm h t x lo hi mx = some v → ∃ u, VR r v u ∧ (Instr.sliceAt t y (lo.map ρ) (hi.map ρ) (mx.map ρ)).run P w = .ok u w := by
      intro hd hs
      obtain ⟨u, h1, h2⟩ := sliceV_ok hr he hx hk hs
      refine ⟨u, h1, ?_⟩
      rw [← h2]
      cases d <;> first | (simp [Instr.sliceAt, run_underlying hu, Result.andThen]; done) | exact absurd rfl (hd _ _)
    cases d with
    | array n elem =>
      dsimp only at hs
      split at hs
      · rename_i b off g esz ht
        obtain ⟨c, rfl, hc⟩ := hx.ptr_inv
        obtain ⟨_, h5, _⟩ := tyI_spec ht
        split at hs
        · cases hs
        rename_i m hm
        split at hs
        · cases hs
        rename_i hh hhh
        split at hs
        · cases hs
        rename_i l hl
        split at hs
        · cases hs
        rename_i h1
        split at hs
        · cases hs
        rename_i h2
        split at hs
        · cases hs
        rename_i h3
        cases hs
        exact ⟨_, .slx _ _ _ _ c hc, sliceAt_run he hu ht hk hm hhh hl (Nat.le_of_ble_eq_true h1) (Nat.le_of_ble_eq_true h2) (Nat.le_of_ble_eq_true h3)⟩
      · cases hs
    | _ => exact hgen (by intros; simp) hs
theorem bytesOf_spec : ∀ {l : List V} {xs : List Value} {bs : List Nat}, bytesOf l = some bs → VRs r l xs → xs = bs.map (fun (m : Nat) => Value.int .u8 (m : Int)) ∧ ∀ m ∈ bs, m < 256
  | [], _, _, hb, .nil => by cases hb; exact ⟨rfl, by simp⟩
  | v :: l, _, bs, hb, .cons _ x _ ys hv hl => by
    unfold bytesOf at hb
    split at hb
    · rename_i he; cases he
    · rename_i m l' he
      cases he
      split at hb
      · rename_i hlt
        split at hb
        · rename_i bs' hbs
          cases hb
          obtain ⟨e, hall⟩ := bytesOf_spec hbs hl
          subst e
          rw [hv.int_inv]
          refine ⟨rfl, fun q hq => ?_⟩
          rcases List.mem_cons.1 hq with rfl | hq
          · exact Nat.le_of_ble_eq_true hlt
          · exact hall q hq
        · cases hb
      · cases hb
    · cases hb
theorem bytes_back {bs : List Nat} (hb : ∀ m ∈ bs, m < 256) : (((bs.map fun (m : Nat) => (m : Int)).foldl (fun r n => ByteArray.push r (UInt8.ofNat n.toNat)) ByteArray.empty).data.toList).map UInt8.toNat = bs := by
  have e : (bs.map fun (m : Nat) => (m : Int)) = ((bs.map UInt8.ofNat).map (fun b => (b.toNat : Int))) := by
    rw [List.map_map]
    apply List.map_congr_left
    intro m hm
    have := hb m hm
    simp; omega
  rw [e, foldl_push_byteCells]
  have he0 : ByteArray.empty.data = #[] := rfl
  rw [he0]
  simp only [Array.toList_append, List.nil_append, List.map_map]
  have : (List.map (UInt8.toNat ∘ UInt8.ofNat) bs) = bs := by
    conv => rhs; rw [← List.map_id bs]
    apply List.map_congr_left
    intro m hm
    have := hb m hm
    simp; omega
  simpa using this
theorem convV_ok (hr : HR P w0 r h w) {s d : Nat} {x v : V} {y : Value} (hx : VR r x y) (hc : convV P h s d x = some v) : ∃ u, VR r v u ∧ (convert s d y).run P w = .ok u w := by
  unfold convV at hc
  split at hc
  · rename_i ds k kk n hs hd
    cases hc
    rw [hx.int_inv, wrapF_eq]
    exact ⟨_, .int k _, by simp [convert, run_underlying hs, run_underlying hd, Conv.intToInt]⟩
  · rename_i ds z hs hd
    cases hc
    obtain ⟨q, rfl, hq⟩ := hx.str_inv
    refine ⟨_, .str _ q hq, ?_⟩
    simp [convert, run_underlying hs, run_underlying hd]
  · rename_i e x' hs hd _
    split at hc
    · rename_i he
      split at hc
      · cases hc
        rw [hx.nils_inv]
        refine ⟨_, .str [] .empty (by simp), ?_⟩
        simp [convert, run_underlying hs, run_underlying hd, run_underlying he, Conv.bytesToString]
      · rename_i b off len cap _
        split at hc
        · rename_i l hl
          split at hc
          · rename_i bs hbs
            cases hc
            obtain ⟨c, m, rfl, hcat, _⟩ := hx.sl_inv
            obtain ⟨xs, hv, hn, hrun⟩ := loadN_ok hr hcat hl
            obtain ⟨e1, e2⟩ := bytesOf_spec hbs hv
            refine ⟨_, .str _ _ (bytes_back e2), ?_⟩
            have := run_bytesToString (P := P) w ⟨c, off, none⟩ len m (bs.map fun (m : Nat) => (m : Int)) (by rw [hrun, e1]; simp)
            simp [convert, run_underlying hs, run_underlying hd, run_underlying he, this]
          · cases hc
        · cases hc
      · cases hc
    · cases hc
  · cases hc
theorem getObj_run {c : Nat} {o : Obj} (ho : w.heap[c]? = some o) (hn : ∀ cs e f, o ≠ .cells cs e f) : (getObj c).run P w = .ok o w := by
  cases o <;> first | (simp [getObj, Sem.run, ho]; done) | exact absurd rfl (hn _ _ _)
theorem ERs.length : ∀ {es : List (V × V × Nat)} {xs : List MapEntry}, ERs r es xs → es.length = xs.length
  | _, _, .nil => rfl
  | _, _, .cons _ _ _ _ _ _ _ _ _ h => by simp [ERs.length h]
theorem HR.map (hr : HR P w0 r h w) {b c clock : Nat} {es : List (V × V × Nat)} (hb : h.t.get b = some (.map es clock)) (hc : r.at_ b = some c) : ∃ xs, w.heap[c]? = some (.map xs clock) ∧ ERs r es xs.toList := by
  obtain ⟨c', hc', hO, _⟩ := hr.ob b _ hb rfl _ hc
  obtain rfl : c' = c := by rw [hc] at hc'; exact (Option.some.inj hc').symm
  exact hO
theorem lenV_ok (hr : HR P w0 r h w) {t ty : Nat} {x v : V} {y : Value} {ts : List Nat} {ys : List Value} (hx : VR r x y) (hl : lenV P h t x = some v) : ∃ u, VR r v u ∧ (Builtin.len_ ⟨t :: ts⟩ ty ⟨y :: ys⟩).run P w = .ok u w := by
  unfold lenV at hl
  split at hl
  · rename_i s hu
    cases hl
    obtain ⟨q, rfl, hq⟩ := hx.str_inv
    refine ⟨_, .int _ _, ?_⟩
    rw [← hq, size_data]
    simp [Builtin.len_, run_underlying hu, goInt]
  · rename_i n e hu
    cases hl
    exact ⟨_, .int _ _, by simp [Builtin.len_, run_underlying hu, goInt]⟩
  · rename_i e hu
    cases hl
    rw [hx.nils_inv]
    exact ⟨_, .int _ _, by simp [Builtin.len_, run_underlying hu, goInt]⟩
  · rename_i e hu
    cases hl
    obtain ⟨a, m, rfl⟩ := hx.emp_inv
    exact ⟨_, .int _ _, by simp [Builtin.len_, run_underlying hu, goInt]⟩
  · rename_i e b o n cap hu
    cases hl
    obtain ⟨c, m, rfl, _, _⟩ := hx.sl_inv
    exact ⟨_, .int _ _, by simp [Builtin.len_, run_underlying hu, goInt]⟩
  · rename_i k e hu
    cases hl
    rw [hx.nilm_inv]
    exact ⟨_, .int _ _, by simp [Builtin.len_, run_underlying hu, goInt]⟩
  · rename_i k e b hu
    split at hl
    · rename_i es clock hb
      cases hl
      obtain ⟨c, rfl, hc⟩ := hx.map_inv
      obtain ⟨xs, h0, h1⟩ := hr.map hb hc
      refine ⟨_, .int _ _, ?_⟩
      have hg := getObj_run (P := P) h0 (by intros; simp)
      rw [h1.length]
      simp [Builtin.len_, run_underlying hu, hg, goInt]
    · cases hl
  · cases hl

-- maps
theorem plainKey_spec {kt : Nat} {key : V} {x : Value} (hk : plainKey P kt key = true) (hx : VR r key x) :
    ∃ d, P.underlying kt = some d ∧ MapKept.IsKey d x ∧ ((d = .string ∧ ∃ s, key = .str s) ∨ ∃ i k n, d = .int i ∧ key = .int k n) := by
  unfold plainKey at hk
  split at hk
  · rename_i s hu
    obtain ⟨q, rfl, _⟩ := hx.str_inv
    exact ⟨_, hu, trivial, .inl ⟨rfl, s, rfl⟩⟩
  · rename_i i k n hu
    rw [hx.int_inv]
    exact ⟨_, hu, kindEq_eq hk, .inr ⟨i, k, n, rfl, rfl⟩⟩
  · cases hk
theorem keyEq_ok {d : TypeDesc} {key k : V} {x y : Value} {b : Bool} (hd : (d = .string ∧ ∃ s, key = .str s) ∨ ∃ i k n, d = .int i ∧ key = .int k n) (hx : VR r key x) (hy : VR r k y) (he : keyEq key k = some b) :
    Instr.sameNow d x y = some b ∧ (b = true → Instr.sameBits 10000 y x = true) := by
  rcases hd with ⟨rfl, s, rfl⟩ | ⟨i, kk, n, rfl, rfl⟩
  · obtain ⟨q, rfl, hq⟩ := hx.str_inv
    unfold keyEq at he
    split at he
    · rename_i h; cases h
    · rename_i s1 s2 h
      cases h
      cases he
      obtain ⟨q', rfl, hq'⟩ := hy.str_inv
      rw [← hq, ← hq', leqL_bytes]
      refine ⟨by simp [Instr.sameNow, beq_toListBytes], fun h => ?_⟩
      have e : (q' == q) = true := by rw [beq_toListBytes]; rw [beq_iff_eq] at h ⊢; exact h.symm
      simp [Instr.sameBits, e]
    · cases he
  · rw [hx.int_inv]
    unfold keyEq at he
    split at he
    · rename_i k1 a j b' h
      cases h
      rw [hy.int_inv]
      split at he
      · rename_i hk
        cases he
        have := kindEq_eq hk; subst this
        rw [eqF_eq]
        refine ⟨by simp [Instr.sameNow], fun h => ?_⟩
        rw [beq_iff_eq] at h; subst h
        simp [Instr.sameBits]
      · cases he
    · rename_i h; cases h
    · cases he
theorem kfind_ok {d : TypeDesc} {key : V} {x : Value} (hd : (d = .string ∧ ∃ s, key = .str s) ∨ ∃ i k n, d = .int i ∧ key = .int k n) (hx : VR r key x) : ∀ {es : List (V × V × Nat)} {xs : List MapEntry} (i : Nat) {res : Option (Nat × V)},
    ERs r es xs → kfind key es i = some res → (res = none ∧ Instr.findNow d x xs i = some none) ∨
      ∃ j v u e, res = some (j, v) ∧ VR r v u ∧ Instr.findNow d x xs i = some (some (j, u)) ∧ i ≤ j ∧ xs[j - i]? = some e ∧ Instr.sameBits 10000 e.key x = true
  | _, _, i, res, .nil, hf => by cases hf; exact .inl ⟨rfl, rfl⟩
  | _, _, i, res, .cons k v b y z es xs hk hv h, hf => by
    unfold kfind at hf
    dsimp only at hf
    cases he : keyEq key k with
    | none => rw [he] at hf; cases hf
    | some bb =>
      rw [he] at hf
      obtain ⟨h1, h2⟩ := keyEq_ok hd hx hk he
      cases bb with
      | true =>
        cases hf
        exact .inr ⟨i, v, z, ⟨y, z, b⟩, rfl, hv, by simp [Instr.findNow, h1], Nat.le_refl _, by simp, h2 rfl⟩
      | false =>
        rcases kfind_ok hd hx (i + 1) h hf with ⟨e1, e2⟩ | ⟨j, v', u, e, e1, e2, e3, e4, e5, e6⟩
        · exact .inl ⟨e1, by simp [Instr.findNow, h1, e2]⟩
        · refine .inr ⟨j, v', u, e, e1, e2, by simp [Instr.findNow, h1, e3], by omega, ?_, e6⟩
          obtain ⟨q, hq⟩ : ∃ q, j - i = q + 1 := ⟨j - i - 1, by omega⟩
          rw [hq, List.getElem?_cons_succ, ← e5]; congr 1; omega
theorem mapEs_ok (hr : HR P w0 r h w) {m : V} {y : Value} {es : List (V × V × Nat)} (hx : VR r m y) (hm : mapEs h m = some es) :
    (∃ xs : List MapEntry, ERs r es xs ∧ ((y = .map none ∧ xs = []) ∨ ∃ c clock, y = .map (some c) ∧ w.heap[c]? = some (.map ⟨xs⟩ clock))) := by
  unfold mapEs at hm
  split at hm
  · cases hm; exact ⟨[], .nil, .inl ⟨hx.nilm_inv, rfl⟩⟩
  · rename_i b
    split at hm
    · rename_i es' clock hb
      cases hm
      obtain ⟨c, rfl, hc⟩ := hx.map_inv
      obtain ⟨xs, h0, h1⟩ := hr.map hb hc
      exact ⟨xs.toList, h1, .inr ⟨c, clock, rfl, h0⟩⟩
    · cases hm
  · cases hm
theorem lookV_ok (hr : HR P w0 r h w) {t : Nat} {m key v : V} {ym yk : Value} {ok : Bool} (hm : VR r m ym) (hk : VR r key yk) (hl : lookV P h t m key ok = some v) :
    ∃ u, VR r v u ∧ (Instr.lookup t ym yk ok).run P w = .ok u w := by
  unfold lookV at hl
  split at hl
  · rename_i kt et hu
    split at hl
    · cases hl
    rename_i hpk
    obtain ⟨d, hd, hkey, hshape⟩ := plainKey_spec hpk hk
    split at hl
    · cases hl
    rename_i es hes
    obtain ⟨xs, hE, hy⟩ := mapEs_ok hr hm hes
    have hck : ∀ e, (Instr.checkKey e 10000 kt yk).run P w = .ok () w := fun e => MapKept.run_checkKey hd hkey e 9999
    have hsome : ∀ j u, Instr.findNow d yk xs 0 = some (some (j, u)) → (Instr.lookup t ym yk ok).run P w = .ok (if ok then .tuple #[u, .bool true] else u) w := by
      intro j u hres
      have hfk := MapKept.run_findKey (P := P) (w := w) hd hres
      rcases hy with ⟨rfl, rfl⟩ | ⟨c, clock, rfl, h0⟩
      · simp [Instr.findNow] at hres
      · have hg := getObj_run (P := P) h0 (by intros; simp)
        simp [Instr.lookup, run_underlying hu, hg, hck, hfk, Result.andThen]
    have hnone : ∀ z, (zeroValue et).run P w = .ok z w → Instr.findNow d yk xs 0 = some none → (Instr.lookup t ym yk ok).run P w = .ok (if ok then .tuple #[z, .bool false] else z) w := by
      intro z hz hres
      have hfk := MapKept.run_findKey (P := P) (w := w) hd hres
      rcases hy with ⟨rfl, rfl⟩ | ⟨c, clock, rfl, h0⟩
      · simp [Instr.lookup, run_underlying hu, hck, hfk, Result.andThen, hz]
      · have hg := getObj_run (P := P) h0 (by intros; simp)
        simp [Instr.lookup, run_underlying hu, hg, hck, hfk, Result.andThen, hz]
    split at hl
    · cases hl
    · rename_i j u hf
      cases hl
      rcases kfind_ok hshape hk 0 hE hf with ⟨e1, _⟩ | ⟨j', v', u', e, e1, e2, e3, _⟩
      · cases e1
      · cases e1
        refine ⟨_, ?_, hsome _ _ e3⟩
        · cases ok
          · exact e2
          · exact .tup _ [u', .bool true] (.cons _ _ _ _ e2 (.cons _ _ _ _ (.bool true) .nil))
    · rename_i hf
      split at hl
      · cases hl
      · rename_i z hz
        cases hl
        rcases kfind_ok hshape hk 0 hE hf with ⟨_, e1⟩ | ⟨j', v', u', e, e1, _⟩
        · obtain ⟨i, zv, hi, hzv, hvr, _⟩ := zeroV_spec (r := r) hz
          refine ⟨if ok then .tuple #[zv, .bool false] else zv, ?_, ?_⟩
          · cases ok
            · exact hvr
            · exact .tup _ [zv, .bool false] (.cons _ _ _ _ hvr (.cons _ _ _ _ (.bool false) .nil))
          · exact hnone _ (run_zeroValue hi hzv w) e1
        · cases e1
  · cases hl
end ops
end
end Go.Ev
