/- Numbers and texts as bytes: what the program lays down behind nothing. -/
import Derived.Test.YtaokjpbgdehhiaaGreatDoorAppend
import Derived.Test.YtaokjpbgdehhiaaGreatDoorEmpty
import Derived.Laws.MakeOwn
import Derived.Lib.AppendStr
namespace Go.Proofs.YtaokjpbgdehhiaaGreatDoor.B
open Go.RowKit

/-- Bytes as cells. -/
def bv (l : List Nat) : List Value := l.map fun (b : Nat) => Value.int .u8 (b : Int)
@[simp] theorem bv_length (l : List Nat) : (bv l).length = l.length := by simp [bv]
theorem bv_append (a b : List Nat) : bv (a ++ b) = bv a ++ bv b := by simp [bv]
theorem bv_one (l : List Nat) : ∀ u ∈ bv l, u.oneCell' = true := by
  intro u hu
  simp only [bv, List.mem_map] at hu
  obtain ⟨b, _, rfl⟩ := hu
  rfl
/-- A text's bytes. -/
def sb (s : ByteArray) : List Nat := s.data.toList.map (·.toNat)
@[simp] theorem sb_length (s : ByteArray) : (sb s).length = s.size := by
  simp [sb]
theorem sb_cells (s : ByteArray) : Lib.strCells s = bv (sb s) := by simp [Lib.strCells, bv, sb]

/-- A number's groups, the lowest first. -/
def grpF : Nat → Nat → List Nat
  | 0, n => [n]
  | k + 1, n => if n < 128 then [n] else (n % 128 + 128) :: grpF k (n / 128)
def grp (n : Nat) : List Nat := grpF 9 n
theorem grpF_lt (k n : Nat) (h : n < 128) : grpF k n = [n] := by
  cases k with
  | zero => rfl
  | succ k => simp [grpF, h]
theorem grpF_ge (k n : Nat) (h : ¬ n < 128) : grpF (k + 1) n = (n % 128 + 128) :: grpF k (n / 128) := by simp [grpF, h]
theorem grpF_len (k n : Nat) : 1 ≤ (grpF k n).length ∧ (grpF k n).length ≤ k + 1 := by
  induction k generalizing n with
  | zero => simp [grpF]
  | succ k ih =>
    unfold grpF
    split
    · simp
    · have := ih (n / 128)
      simp; omega
theorem grp_len (n : Nat) : 1 ≤ (grp n).length ∧ (grp n).length ≤ 10 := grpF_len 9 n
theorem pow_step (f y : Nat) (h : y < 2 * 128 ^ (f + 1)) : y / 128 < 2 * 128 ^ f := by
  rw [Nat.pow_succ] at h
  generalize 128 ^ f = P at h ⊢
  omega

theorem or128 (y : Nat) : bits BinOp.or IntKind.u8 ((y : Int) % 256) 128 = ((y % 128 + 128 : Nat) : Int) := by
  have h : ∀ a : Fin 256, bits BinOp.or IntKind.u8 ((a.val : Nat) : Int) 128 = ((a.val % 128 + 128 : Nat) : Int) := by decide +kernel
  have := h ⟨y % 256, by omega⟩
  simp only at this
  rw [show ((y : Int) % 256) = ((y % 256 : Nat) : Int) by omega, this]
  congr 2
  omega

theorem make_room (k : Nat) (hk : k ≤ 1099511627776) : ∃ Z : Array Value, Z.size = k ∧
    ∀ w : World, (Instr.makeSlice 26 (.int .i64 0) (.int .i64 (k : Int))).run Tryz.prog w = .ok (.slice (some ⟨w.heap.size, 0, none⟩) 0 k) (w.alloc (.cells Z 5)) := by
  obtain ⟨i, hi, hz⟩ := Option.map_eq_some_iff.1 info_u8
  simp only [Prod.mk.injEq] at hz
  obtain ⟨h0, h1, h2⟩ := hz
  refine ⟨madeCells (Value.int .u8 0).cells (k * i.size), by simp [madeCells, h1], fun w => ?_⟩
  have := run_make (P := Tryz.prog) w 26 5 i _ Tryz.underlying26 hi h0 .i64 .i64 0 k (by omega) (by omega) (by rw [h2]; omega) (by omega)
  simpa using this

set_option maxHeartbeats 1000000 in
theorem grown_nil (k : Nat) (w : World) (hk : k ≤ 1099511627776) :
    Calls Tryz.prog 114 #[.slice none 0 0, .int .i64 (k : Int)] w fun e w' => (∃ v, e = .returned v ∧ w'.ownsRow w.heap.size 5 1 v 0 []) ∧ Below w.heap.size w w' := by
  obtain ⟨Z, hZ, hmk⟩ := make_room k hk
  have h0 : (0 : Int) + (k : Int) = (k : Int) := by omega
  have own0 : (w.alloc (.cells Z 5)).ownsRow w.heap.size 5 1 (.slice (some ⟨w.heap.size, 0, none⟩) 0 k) 0 [] := World.ownsRow_made w Z k (Nat.le_refl _) (by simp only [maxLen]; omega) (by simp [hZ])
  go_enter Tryz.func114, Tryz.ntmps114
  go_wp2_with (at_builtin; refine wpList_append_rd _ rfl (.tmp 9) (.tmp 10) 26 rfl w.heap.size 5 _ 1 1 Tryz.underlying26 info_u8 rfl (by decide) rfl own0 rfl (Rd.none_ _ _) (by simp) ?c1 ?c2 ?c3 ?_; (case c1 => simp [maxLen]); (case c2 => omega); (case c3 => simp); intro v1 w1 hown hg hat)
  go_ret
  exact ⟨⟨_, rfl, by simpa using hown⟩, bG (bA (Below.refl _ _) _) own0 (Nat.le_refl _) hg⟩

set_option maxRecDepth 100000 in
set_option maxHeartbeats 3200000 in
theorem putU_any (base : Nat) (v : Value) (m x : Nat) (l : List Nat) (w : World) (hown : w.ownsRow base 5 1 v m (bv l)) (hb : base ≤ w.heap.size) (hx : x < 18446744073709551616) (hm : m ≤ 1099511627776) :
    Calls Tryz.prog 156 #[v, .int .u64 (x : Int)] w fun e w' => (∃ v', e = .returned v' ∧ w'.ownsRow base 5 1 v' (m + (grp x).length) (bv (l ++ grp x))) ∧ Below base w w' := by
  obtain ⟨i0, hi0, hz0, hz1, hz2⟩ := info_parts info_u8
  have HO := hide hown
  clear hown
  go_enter Tryz.func156, Tryz.ntmps156
  go_wp2_with fail
  go_loopg [0, 1] 9 (fun gf b i wr => ∃ (f y : Nat) (pre : List Nat), f ≤ gf ∧ y < 2 * 128 ^ f ∧ i = .int .u64 (y : Int) ∧ pre ++ grpF f y = grp x ∧ pre.length ≤ 10 ∧ wr.ownsRow base 5 1 b (m + pre.length) (bv (l ++ pre)) ∧ Below base w wr)
  case atStart => exact ⟨9, x, [], by omega, by omega, rfl, by simp [grp], by simp, by simpa using HO.out, Below.refl _ _⟩
  case round =>
    obtain ⟨f, y, pre, hf, hy, rfl, hp, hpl, hv, hlow⟩ := hrel
    by_cases hlt : y < 128
    · have h1 : (y : Int) < 128 := by omega
      have hvA : ∀ o : Obj, (wr.alloc o).ownsRow base 5 1 u0 (m + pre.length) (bv (l ++ pre)) := fun o => own_below hv (bA (Below.refl _ _) o)
      have hsz : base ≤ wr.heap.size := Nat.le_trans hb hlow.size
      rw [grpF_lt f y hlt] at hp
      have HV := hide hv
      have HLw := hide hlow
      have HP := hide hp
      clear hv hy hlow hp
      go_wp2_with (at_builtin; refine wpList_append_lies _ rfl _ _ _ rfl base 5 i0 _ 1 1 Tryz.underlying26 hi0 hz0 hz1 hz2 rfl (by omega) u0 (m + pre.length) (bv (l ++ pre)) rfl (hvA _) ⟨wr.heap.size, 0, none⟩ 1 1 [.int .u8 (y : Int)] rfl rfl (by have := World.news_of_block (cs := #[.int .u8 (y : Int)]) (t := 5) (fr := (0, 0)) (heap_alloc_new wr _); simpa using this) (by simp [Value.oneCell']) (by omega) (by simp only [maxLen]; omega) (by omega) (by simp; omega) (wr.heap.size + 1) (by simp) ?_; intro g' cap wx hown1 hgrow hat hlt')
      go_ret
      refine ⟨⟨_, rfl, ?_⟩, ?_⟩
      · have e : (grp x).length = pre.length + 1 := by rw [← HP.out]; simp
        rw [e, ← HP.out]
        simpa [bv, List.append_assoc, Nat.add_assoc] using hown1
      · exact (HLw.out.alloc hsz _).grown hgrow (by simp; omega) (fun q hq => own_base HV.out q hq)
    · have h1 : (128 : Int) ≤ (y : Int) := by omega
      obtain ⟨f', rfl⟩ : ∃ f', f = f' + 1 := by
        cases f with
        | zero => simp at hy; omega
        | succ f' => exact ⟨f', rfl⟩
      have hy2 := pow_step f' y hy
      have hvA : ∀ o : Obj, (wr.alloc o).ownsRow base 5 1 u0 (m + pre.length) (bv (l ++ pre)) := fun o => own_below hv (bA (Below.refl _ _) o)
      have hsz : base ≤ wr.heap.size := Nat.le_trans hb hlow.size
      rw [grpF_ge f' y hlt] at hp
      have hpl2 : pre.length + 1 ≤ 10 := by
        have h1 := congrArg List.length hp
        have h2 := (grpF_len f' (y / 128)).1
        have h3 := (grp_len x).2
        simp at h1
        omega
      have HV := hide hv
      have HLw := hide hlow
      have HP := hide hp
      have HY := hide hy2
      clear hv hy hlow hp hy2
      go_wp2_with (at_builtin; refine wpList_append_lies _ rfl _ _ _ rfl base 5 i0 _ 1 1 Tryz.underlying26 hi0 hz0 hz1 hz2 rfl (by omega) u0 (m + pre.length) (bv (l ++ pre)) rfl (hvA _) ⟨wr.heap.size, 0, none⟩ 1 1 [.int .u8 (bits BinOp.or IntKind.u8 ((y : Int) % 256) 128)] rfl rfl (by have := World.news_of_block (cs := #[.int .u8 (bits BinOp.or IntKind.u8 ((y : Int) % 256) 128)]) (t := 5) (fr := (0, 0)) (heap_alloc_new wr _); simpa using this) (by simp [Value.oneCell']) (by omega) (by simp only [maxLen]; omega) (by omega) (by simp; omega) (wr.heap.size + 1) (by simp) ?_; intro g' cap wx hown1 hgrow hat hlt')
      go_roundg (gk - 1)
      case measure => omega
      case rel =>
        rw [or128] at hown1
        refine ⟨f', y / 128, pre ++ [y % 128 + 128], by omega, HY.out, by rw [show ((y / 128 : Nat) : Int) = (y : Int) / 128 by omega], by rw [List.append_assoc]; exact HP.out, by simp; omega, ?_, (HLw.out.alloc hsz _).grown hgrow (by simp; omega) (fun q hq => own_base HV.out q hq)⟩
        simpa [bv, List.append_assoc, Nat.add_assoc] using hown1

theorem own_form {w : World} {base n : Nat} {v : Value} {xs : List Value} (h : w.ownsRow base 5 1 v n xs) (hn : 1 ≤ n) : ∃ g c, v = .slice (some ⟨g, 0, none⟩) n c := by
  obtain ⟨g, c, e, _⟩ := h.form hn
  exact ⟨g, c, e⟩

/-- Bytes of the call's own, some at least. -/
def Bytes (base : Nat) (l : List Nat) (w : World) (e : Ending) (w' : World) : Prop :=
  (∃ g c, e = .returned (.slice (some ⟨g, 0, none⟩) l.length c) ∧ w'.ownsRow base 5 1 (.slice (some ⟨g, 0, none⟩) l.length c) l.length (bv l)) ∧ Below base w w'

set_option maxHeartbeats 1000000 in
theorem putUint_nil (x : Nat) (w : World) (hx : x < 18446744073709551616) :
    Calls Tryz.prog 109 #[.slice none 0 0, .int .u64 (x : Int)] w (Bytes w.heap.size (grp x) w) := by
  go_enter Tryz.func109, Tryz.ntmps109
  go_wp2_with fail
  refine (grown_nil 10 _ (by omega)).mono ?_
  rintro e w1 ⟨⟨v, rfl, hown⟩, hb⟩
  go_wp2_with fail
  refine (putU_any w.heap.size v 0 x [] w1 (by simpa [bv] using hown) hb.size hx (by omega)).mono ?_
  rintro e w2 ⟨⟨v2, rfl, hown2⟩, hb2⟩
  simp only [Nat.zero_add, List.nil_append] at hown2
  obtain ⟨g, c, rfl⟩ := own_form hown2 (grp_len x).1
  go_wp2_with fail
  go_ret
  exact ⟨⟨g, c, rfl, hown2⟩, hb.trans hb2⟩

theorem xor0 (n : Nat) (h : n < 4611686018427387904) : bits BinOp.xor IntKind.u64 ((n : Int) * 2) ((n : Int) / 9223372036854775808) = ((2 * n : Nat) : Int) := by
  rw [show ((n : Int) / 9223372036854775808) = 0 by omega]
  have e : bits BinOp.xor IntKind.u64 ((n : Int) * 2) 0 = IntKind.u64.wrap (((BitVec.ofInt 64 ((n : Int) * 2)) ^^^ (0#64)).toNat : Int) := rfl
  rw [e, BitVec.xor_zero, BitVec.toNat_ofInt]
  simp [IntKind.bits, IntKind.wrap, IntKind.signed]
  omega

set_option maxHeartbeats 1000000 in
theorem putInt_nil (n : Nat) (w : World) (hn : n < 4611686018427387904) :
    Calls Tryz.prog 106 #[.slice none 0 0, .int .i64 (n : Int)] w (Bytes w.heap.size (grp (2 * n)) w) := by
  go_enter Tryz.func106, Tryz.ntmps106
  have hc := putUint_nil (2 * n) w (by omega)
  rw [← xor0 n hn] at hc
  go_wp2_with fail
  refine hc.mono ?_
  rintro e w1 ⟨⟨g, c, rfl, hown⟩, hb⟩
  go_wp2_with fail
  go_ret
  exact ⟨⟨g, c, rfl, hown⟩, hb⟩

set_option maxHeartbeats 1000000 in
theorem putText_nil (s : ByteArray) (w : World) (hs : s.size ≤ 1000000000) :
    Calls Tryz.prog 110 #[.slice none 0 0, .string s] w (Bytes w.heap.size (grp s.size ++ sb s) w) := by
  obtain ⟨i0, hi0, hz0, hz1, hz2⟩ := info_parts info_u8
  go_enter Tryz.func110, Tryz.ntmps110
  have hc := grown_nil (10 + s.size) w (by omega)
  rw [show ((10 + s.size : Nat) : Int) = 10 + (s.size : Int) by omega] at hc
  go_wp2_with fail
  refine hc.mono ?_
  rintro e w1 ⟨⟨v, rfl, hown⟩, hb⟩
  go_wp2_with fail
  refine (putU_any w.heap.size v 0 s.size [] w1 (by simpa [bv] using hown) hb.size (by omega) (by omega)).mono ?_
  rintro e w2 ⟨⟨v2, rfl, hown2⟩, hb2⟩
  simp only [Nat.zero_add, List.nil_append] at hown2
  have hb12 := hb.trans hb2
  have hl := grp_len s.size
  go_wp2_with (at_builtin; refine Lib.wpList_append_own_string _ rfl (.tmp 13) (.tmp 14) 26 9 rfl w.heap.size 5 i0 Tryz.underlying26 Tryz.underlying9 hi0 hz0 hz1 hz2 v2 (grp s.size).length (bv (grp s.size)) rfl hown2 s rfl (by simp only [maxLen]; omega) (by omega) hb12.size ?_; intro v3 w3 hown3 hg3 hn3)
  go_ret
  rw [sb_cells, ← bv_append, show (grp s.size).length + s.size = (grp s.size ++ sb s).length by simp] at hown3
  obtain ⟨g, c, rfl⟩ := own_form hown3 (by simp; omega)
  exact ⟨⟨g, c, rfl, hown3⟩, hb12.grown hg3 hb12.size (fun q hq => own_base hown2 q hq)⟩

/-- A word's bytes, the lowest first. -/
def le : Nat → Nat → List Nat
  | 0, _ => []
  | k + 1, n => (n % 256) :: le k (n / 256)
@[simp] theorem le_length (k n : Nat) : (le k n).length = k := by
  induction k generalizing n with
  | zero => rfl
  | succ k ih => simp [le, ih]

set_option maxRecDepth 100000 in
set_option maxHeartbeats 3200000 in
theorem putLow_any (base : Nat) (v : Value) (m x k : Nat) (l : List Nat) (w : World) (hown : w.ownsRow base 5 1 v m (bv l)) (hb : base ≤ w.heap.size) (hx : x < 18446744073709551616) (hm : m ≤ 1099511627776) (hk : k ≤ 8) :
    Calls Tryz.prog 113 #[v, .int .u64 (x : Int), .int .i64 (k : Int)] w fun e w' => (∃ v', e = .returned v' ∧ w'.ownsRow base 5 1 v' (m + k) (bv (l ++ le k x))) ∧ Below base w w' := by
  obtain ⟨i0, hi0, hz0, hz1, hz2⟩ := info_parts info_u8
  have HO := hide hown
  clear hown
  go_enter Tryz.func113, Tryz.ntmps113
  go_wp2_with fail
  go_loopg [0, 1, 8] k (fun gf b n i wr => ∃ (j y : Nat) (pre : List Nat), k ≤ j + gf ∧ j ≤ k ∧ y < 18446744073709551616 ∧ i = .int .i64 (j : Int) ∧ n = .int .u64 (y : Int) ∧ pre ++ le (k - j) y = le k x ∧ pre.length = j ∧ wr.ownsRow base 5 1 b (m + j) (bv (l ++ pre)) ∧ Below base w wr)
  case atStart => exact ⟨0, x, [], by omega, by omega, hx, rfl, rfl, by simp, rfl, by simpa using HO.out, Below.refl _ _⟩
  case round =>
    obtain ⟨j, y, pre, hg, hj, hy, rfl, rfl, hp, hpl, hv, hlow⟩ := hrel
    by_cases hlt : j < k
    · have h1 : (j : Int) < (k : Int) := by omega
      have hvA : ∀ o : Obj, (wr.alloc o).ownsRow base 5 1 u0 (m + j) (bv (l ++ pre)) := fun o => own_below hv (bA (Below.refl _ _) o)
      have hsz : base ≤ wr.heap.size := Nat.le_trans hb hlow.size
      obtain ⟨d, hd⟩ : ∃ d, k - j = d + 1 := ⟨k - j - 1, by omega⟩
      rw [hd] at hp
      simp only [le] at hp
      have HV := hide hv
      have HLw := hide hlow
      have HP := hide hp
      clear hv hlow hp
      go_wp2_with (at_builtin; refine wpList_append_lies _ rfl _ _ _ rfl base 5 i0 _ 1 1 Tryz.underlying26 hi0 hz0 hz1 hz2 rfl (by omega) u0 (m + j) (bv (l ++ pre)) rfl (hvA _) ⟨wr.heap.size, 0, none⟩ 1 1 [.int .u8 ((y : Int) % 256)] rfl rfl (by have := World.news_of_block (cs := #[.int .u8 ((y : Int) % 256)]) (t := 5) (fr := (0, 0)) (heap_alloc_new wr _); simpa using this) (by simp [Value.oneCell']) (by omega) (by simp only [maxLen]; omega) (by omega) (by simp; omega) (wr.heap.size + 1) (by simp) ?_; intro g' cap wx hown1 hgrow hat hlt')
      go_roundg (gk - 1)
      case measure => omega
      case rel =>
        refine ⟨j + 1, y / 256, pre ++ [y % 256], by omega, by omega, by omega, by go_num, by rw [show ((y / 256 : Nat) : Int) = (y : Int) / 256 by omega], by rw [List.append_assoc, show k - (j + 1) = d by omega]; exact HP.out, by simp; omega, ?_, (HLw.out.alloc hsz _).grown hgrow (by simp; omega) (fun q hq => own_base HV.out q hq)⟩
        simpa [bv, List.append_assoc, Nat.add_assoc] using hown1
    · obtain rfl : j = k := by omega
      have HV := hide hv
      have HLw := hide hlow
      have e : pre = le j x := by simpa [le] using hp
      clear hv hlow hp
      go_wp2_with fail
      go_ret
      exact ⟨⟨_, rfl, e ▸ HV.out⟩, HLw.out⟩

set_option maxHeartbeats 1000000 in
theorem putWord_nil (x : Nat) (w : World) (hx : x < 18446744073709551616) :
    Calls Tryz.prog 68 #[.slice none 0 0, .int .u64 (x : Int)] w (Bytes w.heap.size (le 8 x) w) := by
  go_enter Tryz.func68, Tryz.ntmps68
  go_wp2_with fail
  refine (grown_nil 8 _ (by omega)).mono ?_
  rintro e w1 ⟨⟨v, rfl, hown⟩, hb⟩
  go_wp2_with fail
  refine (putLow_any w.heap.size v 0 x 8 [] w1 (by simpa [bv] using hown) hb.size hx (by omega) (by omega)).mono ?_
  rintro e w2 ⟨⟨v2, rfl, hown2⟩, hb2⟩
  simp only [Nat.zero_add, List.nil_append] at hown2
  obtain ⟨g, c, rfl⟩ := own_form hown2 (by omega)
  go_wp2_with fail
  go_ret
  exact ⟨⟨g, c, by simp, by simpa using hown2⟩, hb.trans hb2⟩
end Go.Proofs.YtaokjpbgdehhiaaGreatDoor.B
