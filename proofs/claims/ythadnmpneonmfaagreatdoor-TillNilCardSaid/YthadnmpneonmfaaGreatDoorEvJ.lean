/- The step machine: every operation that only reads. -/
import Derived.Test.YthadnmpneonmfaaGreatDoorEvI
namespace Go.Ev
open Go Go.RowKit
noncomputable section
section ops
variable {P : Program} {w0 : Base} {w : World} {r : Ren} {h : H} {tm : Nat → Option V} {ρ : Operand → Value}

theorem guardInt (op : BinOp) (t : Nat) (xo yo : Operand) (k j : IntKind) (a b : Int) : (eqGuard op t xo yo (.int k a) (.int j b)).run P w = .ok () w := by cases op <;> simp [eqGuard]
theorem guardStr (op : BinOp) (t : Nat) (xo yo : Operand) (a b : ByteArray) : (eqGuard op t xo yo (.string a) (.string b)).run P w = .ok () w := by cases op <;> simp [eqGuard]
theorem binV_ok {op : BinOp} {t : Nat} {x y v : V} {X Y : Value} {xo yo : Operand} (hx : VR r x X) (hy : VR r y Y) (hb : binV P op t xo yo x y = some v) :
    ∃ u, VR r v u ∧ (eqGuard op t xo yo X Y).run P w = .ok () w ∧ (binOp op t X Y).run P w = .ok u w := by
  unfold binV at hb
  split at hb
  · rename_i k a j b
    rw [hx.int_inv, hy.int_inv]
    split at hb
    · split at hb
      · rename_i z hz
        cases hb
        exact ⟨_, .int k z, guardInt _ _ _ _ _ _ _ _, shl_run (j := j) hz⟩
      · cases hb
    · split at hb
      · rename_i z hz
        cases hb
        exact ⟨_, .int k z, guardInt _ _ _ _ _ _ _ _, shr_run (j := j) hz⟩
      · cases hb
    · rename_i hn1 hn2
      split at hb
      · rename_i hk
        have := kindEq_eq hk; subst this
        obtain ⟨u, hu, hrun, ht⟩ := intOp_run (P := P) (w := w) hb ⟨fun e => hn1 e, fun e => hn2 e⟩
        exact ⟨u, hu r, guardInt _ _ _ _ _ _ _ _, by rw [ht t]; exact hrun⟩
      · cases hb
  · rename_i a b
    obtain ⟨p, rfl, hp⟩ := hx.str_inv
    obtain ⟨q, rfl, hq⟩ := hy.str_inv
    subst hp hq
    obtain ⟨u, hu, hrun⟩ := strOp_run (P := P) (w := w) hb
    refine ⟨u, hu r, guardStr _ _ _ _ _ _, ?_⟩
    have e : binOp op t (.string p) (.string q) = Op.stringOp op p q := by cases op <;> rfl
    rw [e]; exact hrun
  · split at hb
    · split at hb
      · rename_i b he
        cases hb
        obtain ⟨h1, h2⟩ := eqV_ok (P := P) (w := w) hx hy he .eql (.inl rfl)
        exact ⟨_, .bool b, h1, h2⟩
      · cases hb
    · split at hb
      · rename_i b he
        cases hb
        obtain ⟨h1, h2⟩ := eqV_ok (P := P) (w := w) hx hy he .neq (.inr rfl)
        exact ⟨_, .bool (!b), h1, h2⟩
      · cases hb
    · cases hb
theorem lastN_spec : ∀ {l : List Nat} {a : Nat}, lastN l = some a → l.toArray.back? = some a
  | [], _, h => by cases h
  | [b], a, h => by cases h; rfl
  | b :: c :: l, a, h => by
    have := lastN_spec (l := c :: l) h
    simp [Array.back?] at this ⊢
    simpa using this
theorem findStamp_ok {st : Nat} : ∀ {es : List (V × V × Nat)} {xs : List MapEntry} {k v : V}, ERs r es xs → findStamp st es = some (k, v) → ∃ e, xs.find? (·.born == st) = some e ∧ VR r k e.key ∧ VR r v e.val
  | _, _, k, v, .cons k' v' b x y es xs hk hv h, hf => by
    simp only [findStamp] at hf
    split at hf
    · rename_i hb
      cases hf
      have := Nat.eq_of_beq_eq_true hb; subst this
      exact ⟨⟨x, y, b⟩, by simp, hk, hv⟩
    · rename_i hb
      have hne := Nat.ne_of_beq_eq_false hb
      obtain ⟨e, he, h1, h2⟩ := findStamp_ok h hf
      have hb' : (b == st) = false := by simpa using hne
      exact ⟨e, by rw [List.find?_cons]; simp [hb', he], h1, h2⟩
theorem stampsOf_ok : ∀ {es : List (V × V × Nat)} {xs : List MapEntry}, ERs r es xs → xs.map (·.born) = stampsOf es
  | _, _, .nil => rfl
  | _, _, .cons _ _ b _ _ _ _ _ _ h => by simp [stampsOf, stampsOf_ok h]
theorem beq0_ok {a b : V} (hb : beq0 a b = true) : a = b := by
  unfold beq0 at hb
  split at hb
  · rename_i x y; cases x <;> cases y <;> first | rfl | cases hb
  · split at hb
    · rename_i hk; have := kindEq_eq hk; subst this
      rw [eqF_eq, beq_iff_eq] at hb; rw [hb]
    · cases hb
  · rw [leqL_eq, decide_eq_true_eq] at hb; rw [hb]
  · rfl
  · rfl
  · rfl
  · rfl
  · rfl
  · rfl
  · split at hb
    · rename_i h1; rw [Nat.eq_of_beq_eq_true h1, Nat.eq_of_beq_eq_true hb]
    · cases hb
  · simp only [Bool.and_eq_true] at hb
    rw [Nat.eq_of_beq_eq_true hb.1, Nat.eq_of_beq_eq_true hb.2.1, Nat.eq_of_beq_eq_true hb.2.2.1, Nat.eq_of_beq_eq_true hb.2.2.2]
  · simp only [Bool.and_eq_true] at hb
    rw [Nat.eq_of_beq_eq_true hb.1, Nat.eq_of_beq_eq_true hb.2.1, Nat.eq_of_beq_eq_true hb.2.2.1, Nat.eq_of_beq_eq_true hb.2.2.2]
  · rw [Nat.eq_of_beq_eq_true hb]
  · cases hb
theorem beqs_ok {f : V → V → Bool} (hf : ∀ {a b : V}, f a b = true → a = b) : ∀ {x y : List V}, beqs f x y = true → x = y
  | [], [], _ => rfl
  | [], _ :: _, h => by cases h
  | _ :: _, [], h => by cases h
  | a :: x, b :: y, h => by
    simp only [beqs] at h
    split at h
    · rename_i h1; rw [hf h1, beqs_ok hf h]
    · cases h
theorem beqW_ok {f : V → V → Bool} (hf : ∀ {a b : V}, f a b = true → a = b) {a b : V} (h : beqW f a b = true) : a = b := by
  unfold beqW at h
  split at h
  · rw [beqs_ok hf h]
  · rw [beqs_ok hf h]
  · simp only [Bool.and_eq_true] at h
    rw [Nat.eq_of_beq_eq_true h.1, beqs_ok hf h.2.1, beqs_ok hf h.2.2]
  · simp only [Bool.and_eq_true] at h
    rw [Nat.eq_of_beq_eq_true h.1, hf h.2]
  · exact beq0_ok h
theorem beqV_ok {a b : V} (h : beqV a b = true) : a = b := beqW_ok (beqW_ok beq0_ok) h
theorem uniform_ok {v : V} {since : Nat} : ∀ {es : List (V × V × Nat)} {xs : List MapEntry}, ERs r es xs → uniform v since es = true → ∀ e ∈ xs, VR r v e.val ∧ e.born < since
  | _, _, .nil, _, e, he => by cases he
  | _, _, .cons k v' b x y es xs hk hv h, hu, e, he => by
    simp only [uniform, Bool.and_eq_true] at hu
    rcases List.mem_cons.1 he with rfl | he
    · exact ⟨by rw [← beqV_ok hu.1]; exact hv, Nat.le_of_ble_eq_true hu.2.1⟩
    · exact uniform_ok h hu.2.2 e he
theorem HR.iter (hr : HR P w0 r h w) {b c since stepped : Nat} {m : Option Nat} {seen : List Nat} (hb : h.t.get b = some (.mapIter m since seen stepped)) (hc : r.at_ b = some c) :
    ∃ m', w.heap[c]? = some (.mapIter m' since seen.toArray stepped) ∧ optAt r m m' := by
  obtain ⟨c', hc', hO, _⟩ := hr.ob b _ hb rfl _ hc
  obtain rfl : c' = c := by rw [hc] at hc'; exact (Option.some.inj hc').symm
  exact hO
theorem HR.iterU (hr : HR P w0 r h w) {b c m since cnt stepped : Nat} {st : List Nat} (hb : h.t.get b = some (.mapIterU m since st cnt stepped)) (hc : r.at_ b = some c) :
    ∃ m' seen, w.heap[c]? = some (.mapIter (some m') since seen stepped) ∧ r.at_ m = some m' ∧ seen.size = cnt ∧ seen.toList.Nodup ∧ (∀ x ∈ seen.toList, x ∈ st) ∧ st.Nodup := by
  obtain ⟨c', hc', hO, _⟩ := hr.ob b _ hb rfl _ hc
  obtain rfl : c' = c := by rw [hc] at hc'; exact (Option.some.inj hc').symm
  exact hO
theorem entryV_ok (hr : HR P w0 r h w) {it v : V} {y : Value} (hx : VR r it y) (he : entryV h it = some v) : ∃ u, VR r v u ∧ (Instr.entry y).run P w = .ok u w := by
  unfold entryV at he
  split at he
  · rename_i rr
    obtain ⟨c, rfl, hc⟩ := hx.ptr_inv
    split at he
    · rename_i m since seen stepped hb
      obtain ⟨m', h0, m'', hm, rfl⟩ := hr.iter hb hc
      split at he
      · rename_i es clock hbm
        obtain ⟨xs, h1, hE⟩ := hr.map hbm hm
        split at he
        · rename_i hck
          have hck := Nat.eq_of_beq_eq_true hck
          split at he
          · rename_i st hst
            split at he
            · rename_i k u hf
              cases he
              obtain ⟨e, hfe, hk, hv⟩ := findStamp_ok hE hf
              have hfe' : xs.find? (fun e => e.born == st) = some e := by
                rw [← hfe]; cases xs; simp
              have g0 := getObj_run (P := P) h0 (by intros; simp)
              have g1 := getObj_run (P := P) h1 (by intros; simp)
              refine ⟨.tuple #[e.key, e.val], .tup _ [_, _] (.cons _ _ _ _ hk (.cons _ _ _ _ hv .nil)), ?_⟩
              simp [Instr.entry, g0, g1, lastN_spec hst, hck, hfe', Result.andThen]
            · cases he
          · cases he
        · cases he
      · cases he
    · rename_i m since st cnt stepped hb
      obtain ⟨m', seen, h0, hm, hs, hnd, hin, hst⟩ := hr.iterU hb hc
      split at he
      · rename_i es clock hbm
        obtain ⟨xs, h1, hE⟩ := hr.map hbm hm
        split at he
        · rename_i hck
          simp only [Bool.and_eq_true] at hck
          have hck1 := Nat.eq_of_beq_eq_true hck.1
          have hck2 : stampsOf es = st := by have := hck.2; rw [leqL_eq, decide_eq_true_eq] at this; exact this
          split at he
          · cases he
          · rename_i e0 es0
            split at he
            · rename_i hu
              cases he
              obtain ⟨b, hbk⟩ : ∃ b, seen.back? = some b := by
                have : 0 < seen.size := by omega
                exact ⟨seen[seen.size - 1], by rw [Array.back?]; exact Array.getElem?_eq_getElem (by omega)⟩
              have hbmem : b ∈ seen.toList := by
                have := Array.mem_of_back? hbk
                simpa using this
              have hbst := hin b hbmem
              rw [← hck2, ← stampsOf_ok hE] at hbst
              obtain ⟨e1, he1, hb1⟩ := List.mem_map.1 hbst
              obtain ⟨e, hfe⟩ : ∃ e, xs.find? (fun e => e.born == b) = some e := by
                have : (xs.find? (fun e => e.born == b)).isSome = true := by
                  rw [Array.find?_isSome]
                  exact ⟨e1, by simpa using he1, by simp [hb1]⟩
                exact Option.isSome_iff_exists.1 this
              have hmem : e ∈ xs.toList := by simpa using Array.mem_of_find?_eq_some hfe
              obtain ⟨hv, _⟩ := uniform_ok hE hu e hmem
              have g0 := getObj_run (P := P) h0 (by intros; simp)
              have g1 := getObj_run (P := P) h1 (by intros; simp)
              refine ⟨.tuple #[e.key, e.val], .tup _ [_, _] (.cons _ _ _ _ (.unk _) (.cons _ _ _ _ hv .nil)), ?_⟩
              simp [Instr.entry, g0, g1, hbk, hck1, hfe, Result.andThen]
            · cases he
        · cases he
      · cases he
    · cases he
  · cases he
theorem minV_ok {mx : Bool} {x y v : V} {X Y : Value} (hx : VR r x X) (hy : VR r y Y) (hm : minV mx x y = some v) : ∃ u, VR r v u ∧ (if mx then Builtin.max2 X Y else Builtin.min2 X Y).run P w = .ok u w := by
  unfold minV at hm
  split at hm
  · rename_i k a j b
    rw [hx.int_inv, hy.int_inv]
    split at hm
    · cases hm
      refine ⟨_, .int k _, ?_⟩
      rw [ltF_eq]
      by_cases h : b < a <;> simp [Builtin.min2, h]
    · cases hm
      refine ⟨_, .int k _, ?_⟩
      rw [ltF_eq]
      by_cases h : a < b <;> simp [Builtin.max2, h]
  · cases hm
theorem minsV_ok {mx : Bool} : ∀ {l : List V} {ls : List Value} {x v : V} {X : Value}, VR r x X → VRs r l ls → minsV mx x l = some v → ∃ u, VR r v u ∧ (ls.foldlM (if mx then Builtin.max2 else Builtin.min2) X).run P w = .ok u w
  | [], _, x, v, X, hx, .nil, hm => by cases hm; exact ⟨X, hx, by simp⟩
  | y :: l, _, x, v, X, hx, .cons _ Y _ ys hy hl, hm => by
    simp only [minsV] at hm
    split at hm
    · rename_i z hz
      obtain ⟨u, hu, hrun⟩ := minV_ok (P := P) (w := w) hx hy hz
      obtain ⟨q, hq, hrun'⟩ := minsV_ok hu hl hm
      refine ⟨q, hq, ?_⟩
      cases mx <;> simp_all [List.foldlM_cons, Result.andThen]
    · cases hm
/-- Every operation that only reads. -/
theorem rd_ok (hr : HR P w0 r h w) (he : ER r tm ρ) {o : Oper} {v : V} (hd : rd P tm h o = some v) : ∃ x, VR r v x ∧ (execOp ρ o).run P w = .ok (.value x) w := by
  obtain ⟨dst, op, type, pos, after, guard⟩ := o
  unfold rd at hd
  cases op <;> dsimp only at hd <;> try (cases hd; done)
  case move x => exact ⟨_, he _ _ hd, rfl⟩
  case pick c a b =>
    split at hd
    · rename_i hc
      have := (he _ _ hc).bool_inv
      exact ⟨_, he _ _ hd, by simp [execOp, this, asBool, Result.andThen]⟩
    · rename_i hc
      have := (he _ _ hc).bool_inv
      exact ⟨_, he _ _ hd, by simp [execOp, this, asBool, Result.andThen]⟩
    · cases hd
  case build t parts =>
    split at hd
    · rename_i ps hps
      obtain ⟨x, hx, hrun⟩ := build_ok (w := w) (evParts_ok he hps) hd
      refine ⟨x, hx, ?_⟩
      refine exec_v ?_
      rw [← hrun]; congr 2
      apply Array.ext'; simp
    · cases hd
  case load t a =>
    split at hd
    · rename_i b off ha
      obtain ⟨c, hc, hcat⟩ := (he _ _ ha).ptr_inv
      obtain ⟨x, hx, hrun⟩ := loadT_ok hr hcat hd
      exact ⟨x, hx, exec_v (by rw [hc]; simp [Instr.loadAt, Instr.sureAddr, Result.andThen, hrun])⟩
    · cases hd
  case nilCheck x =>
    split at hd
    · rename_i b off hx
      cases hd
      obtain ⟨c, hc, hcat⟩ := (he _ _ hx).ptr_inv
      exact ⟨_, .ptr b off c hcat, by simp only [execOp, hc]; rfl⟩
    · rename_i f a b hx
      cases hd
      obtain ⟨p, q, hc, h1, h2⟩ := (he _ _ hx).fn_inv
      exact ⟨_, .fn f a b p q h1 h2, by simp only [execOp, hc]; rfl⟩
    · rename_i t u hx
      cases hd
      obtain ⟨p, hc, h1⟩ := (he _ _ hx).iface_inv
      exact ⟨_, .iface t u p h1, by simp only [execOp, hc]; rfl⟩
    · cases hd
  case binOp op t x y yt =>
    split at hd
    · rename_i a ha
      split at hd
      · rename_i b hb
        obtain ⟨u, hu, h1, h2⟩ := binV_ok (P := P) (w := w) (he _ _ ha) (he _ _ hb) hd
        exact ⟨u, hu, exec_v (by simp [h1, h2, Result.andThen])⟩
      · cases hd
    · cases hd
  case unOp op t x =>
    split at hd
    · rename_i k n hx
      cases hd
      refine ⟨_, .int k _, exec_v ?_⟩
      rw [(he _ _ hx).int_inv, wrapF_eq]; rfl
    · rename_i k n hx
      cases hd
      refine ⟨_, .int k _, exec_v ?_⟩
      rw [(he _ _ hx).int_inv]
      have hlt : modK k - 1 < modK k := by have := modK_pos k; omega
      rw [adj_eq k _ (by rw [modK_nat] at *; exact Nat.xor_lt_two_pow hlt (by have := toU_lt k n; rw [modK_nat] at this; exact this))]
      have e : (BitVec.ofInt k.bits (if k.signed then -1 else k.max)).toNat = modK k - 1 := by rw [ofInt_toNat]; cases k <;> rfl
      simp only [Op.unary, Op.intBits, Sem.run_pure]
      congr 3
      rw [BitVec.toNat_xor, e, ofInt_toNat]; rfl
    · rename_i b hx
      cases hd
      refine ⟨_, .bool _, exec_v ?_⟩
      rw [(he _ _ hx).bool_inv]; rfl
    · cases hd
  case convert s d x =>
    split at hd
    · rename_i a ha
      obtain ⟨u, hu, hrun⟩ := convV_ok hr (he _ _ ha) hd
      exact ⟨u, hu, exec_v hrun⟩
    · cases hd
  case makeInterface t x =>
    split at hd
    · cases hd
    · rename_i d hnd hu
      split at hd
      · rename_i a ha
        cases hd
        refine ⟨_, .iface t a _ (he _ _ ha), exec_v ?_⟩
        cases d <;> first | (simp [Instr.makeInterface, run_underlying hu, Result.andThen]; done) | exact absurd rfl (hnd _)
      · cases hd
    · cases hd
  case makeFunc fn first cap =>
    cases fn <;> dsimp only at hd <;> try (cases hd; done)
    rename_i f
    split at hd
    · rename_i a ha
      split at hd
      · rename_i b hb
        cases hd
        refine ⟨_, .fn f a b _ _ (evs_ok he ha) (evs_ok he hb), exec_v ?_⟩
        have e : ∀ x : Array Operand, x.map ρ = ⟨x.toList.map ρ⟩ := fun x => by apply Array.ext'; simp
        rw [e first, e cap]; rfl
      · cases hd
    · cases hd
  case fieldAddr t x f =>
    split at hd
    · rename_i b off hx
      obtain ⟨c, hc, hcat⟩ := (he _ _ hx).ptr_inv
      split at hd
      · rename_i o n g hf
        cases hd
        exact ⟨_, .ptr b _ c hcat, exec_v (by rw [hc]; exact fieldAt_ok (b := b) hf)⟩
      · cases hd
    · cases hd
  case field t x f =>
    split at hd
    · rename_i cs hx
      obtain ⟨p, hc, hp⟩ := (he _ _ hx).agg_inv
      split at hd
      · rename_i o n g hf
        obtain ⟨u, hu, hrun⟩ := field_ok (w := w) hf hp hd
        exact ⟨u, hu, exec_v (by rw [hc]; exact hrun)⟩
      · cases hd
    · cases hd
  case indexAddr t x i =>
    split at hd
    · rename_i k i' hi
      have hiv := (he _ _ hi).int_inv
      split at hd
      · rename_i b off len cap hx
        obtain ⟨c, m, hc, hcat, _⟩ := (he _ _ hx).sl_inv
        split at hd
        · rename_i elem esz g hs
          split at hd
          · rename_i hlt
            cases hd
            exact ⟨_, .ptr b _ c hcat, exec_v (by rw [hc, hiv]; exact indexAt_sl hs (Nat.le_of_ble_eq_true hlt))⟩
          · cases hd
        · cases hd
      · rename_i b off hx
        obtain ⟨c, hc, hcat⟩ := (he _ _ hx).ptr_inv
        split at hd
        · rename_i n elem hu
          split at hd
          · rename_i g esz ht
            split at hd
            · rename_i hlt
              cases hd
              exact ⟨_, .ptr b _ c hcat, exec_v (by rw [hc, hiv]; exact indexAt_arr hu ht (Nat.le_of_ble_eq_true hlt))⟩
            · cases hd
          · cases hd
        · cases hd
      · cases hd
    · cases hd
  case index t x i =>
    split at hd
    · rename_i k i' hi
      have hiv := (he _ _ hi).int_inv
      split at hd
      · rename_i s hx
        obtain ⟨p, hc, hp⟩ := (he _ _ hx).str_inv
        split at hd
        · rename_i hu
          split at hd
          · rename_i b hb
            cases hd
            exact ⟨_, .int .u8 _, exec_v (by rw [hc, hiv]; exact index_str hu (by rw [hp]; exact hb))⟩
          · cases hd
        · cases hd
      · rename_i cs hx
        obtain ⟨p, hc, hp⟩ := (he _ _ hx).agg_inv
        split at hd
        · rename_i n elem hu
          split at hd
          · rename_i g esz ht
            split at hd
            · rename_i hlt
              obtain ⟨u, hu', hrun⟩ := index_arr (w := w) (k := k) hu ht (Nat.le_of_ble_eq_true hlt) hp hd
              exact ⟨u, hu', exec_v (by rw [hc, hiv]; exact hrun)⟩
            · cases hd
          · cases hd
        · cases hd
      · cases hd
    · cases hd
  case lookup t x i ok =>
    split at hd
    · rename_i m hm
      split at hd
      · rename_i key hk
        obtain ⟨u, hu, hrun⟩ := lookV_ok hr (he _ _ hm) (he _ _ hk) hd
        exact ⟨u, hu, exec_v hrun⟩
      · cases hd
    · cases hd
  case typeAssert x xt at_ ok =>
    split at hd
    · rename_i a ha
      obtain ⟨u, hu, hrun⟩ := assertV_ok (w := w) (xt := xt) (he _ _ ha) hd
      exact ⟨u, hu, exec_v hrun⟩
    · cases hd
  case extract x i =>
    split at hd
    · rename_i vs hx
      obtain ⟨p, hc, hp⟩ := (he _ _ hx).tup_inv
      obtain ⟨u, hu, hv⟩ := hp.get hd
      exact ⟨u, hv, exec_v (by rw [hc]; simp [Instr.extract, hu])⟩
    · cases hd
  case slice t x lo hi mx =>
    split at hd
    · rename_i a ha
      obtain ⟨u, hu, hrun⟩ := sliceAtV_ok hr he (he _ _ ha) hd
      exact ⟨u, hu, exec_v hrun⟩
    · cases hd
  case entry it =>
    split at hd
    · rename_i a ha
      obtain ⟨u, hu, hrun⟩ := entryV_ok hr (he _ _ ha) hd
      exact ⟨u, hu, exec_v hrun⟩
    · cases hd
  case call c =>
    obtain ⟨callee, args, ats⟩ := c
    dsimp only at hd
    have e : ∀ x : Array Operand, x.map ρ = ⟨x.toList.map ρ⟩ := fun x => by apply Array.ext'; simp
    split at hd
    · split at hd
      · rename_i x xs t ts hargs hats
        split at hd
        · rename_i a ha
          obtain ⟨u, hu, hrun⟩ := lenV_ok (ty := type) (ts := ts) (ys := xs.map ρ) hr (he _ _ ha) hd
          refine ⟨u, hu, ?_⟩
          have h1 : args.map ρ = ⟨ρ x :: xs.map ρ⟩ := by rw [e, hargs]; rfl
          have h2 : ats = ⟨t :: ts⟩ := by apply Array.ext'; rw [hats]
          simp only [execOp, resolve, Sem.run_bind, Sem.run_pure, andThen_ok, invoke, builtin, h1, h2, hrun]
        · cases hd
      · cases hd
    · split at hd
      · rename_i x xs t ts hargs hats
        have h1 : args.map ρ = ⟨ρ x :: xs.map ρ⟩ := by rw [e, hargs]; rfl
        have h2 : ats = ⟨t :: ts⟩ := by apply Array.ext'; rw [hats]
        split at hd
        · rename_i el b off n m hu ha
          cases hd
          obtain ⟨c, cp, hc, _, hm⟩ := (he _ _ ha).sl_inv
          obtain rfl : cp = m := hm
          refine ⟨_, .int _ _, ?_⟩
          simp only [execOp, resolve, Sem.run_bind, Sem.run_pure, andThen_ok, invoke, builtin, h1, h2, hc]
          simp [Builtin.cap_, run_underlying hu, goInt, Result.andThen]
        · rename_i el hu ha
          cases hd
          refine ⟨_, .int _ _, ?_⟩
          simp only [execOp, resolve, Sem.run_bind, Sem.run_pure, andThen_ok, invoke, builtin, h1, h2, (he _ _ ha).nils_inv]
          simp [Builtin.cap_, run_underlying hu, goInt, Result.andThen]
        · cases hd
      · cases hd
    · split at hd
      · rename_i x l hl
        have hv := evs_ok he hl
        generalize hz : args.toList.map ρ = zs at hv
        cases hv with
        | cons _ X _ ys hx hy =>
          obtain ⟨u, hu, hrun⟩ := minsV_ok (P := P) (w := w) hx hy hd
          refine ⟨u, hu, ?_⟩
          have h1 : args.map ρ = ⟨X :: ys⟩ := by rw [e, hz]
          simp only [Bool.false_eq_true, if_false] at hrun
          simp only [execOp, resolve, Sem.run_bind, Sem.run_pure, andThen_ok, invoke, builtin, h1, Builtin.min_, hrun]
      · cases hd
    · split at hd
      · rename_i x l hl
        have hv := evs_ok he hl
        generalize hz : args.toList.map ρ = zs at hv
        cases hv with
        | cons _ X _ ys hx hy =>
          obtain ⟨u, hu, hrun⟩ := minsV_ok (P := P) (w := w) hx hy hd
          refine ⟨u, hu, ?_⟩
          have h1 : args.map ρ = ⟨X :: ys⟩ := by rw [e, hz]
          simp only [if_true] at hrun
          simp only [execOp, resolve, Sem.run_bind, Sem.run_pure, andThen_ok, invoke, builtin, h1, Builtin.max_, hrun]
      · cases hd
    · cases hd
end ops
end
end Go.Ev
