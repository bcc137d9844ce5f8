/- The sum of bytes, as the program reckons it. -/
import Derived.Test.YtnaapkoladiomaaGreatDoorLevels
namespace Go.Proofs.YtnaapkoladiomaaGreatDoor.B
open Go.RowKit

/-- What half a byte makes of a register that is 0. -/
def tab (i : Nat) : Nat := [0, 274646895, 549293790, 820201905, 1098587580, 1361435347, 1640403810, 1905808397, 2197175160, 2460548119, 2722870694, 2987750089, 3280807620, 3553878443, 3811616794, 4084100981].getD i 0
theorem tab_lt (i : Nat) : tab i < 4294967296 := by
  rcases Nat.lt_or_ge i 16 with h | h
  · have : ∀ j : Fin 16, tab j.val < 4294967296 := by decide
    exact this ⟨i, h⟩
  · unfold tab
    rw [List.getD_eq_getElem?_getD, List.getElem?_eq_none (by simpa using h)]
    decide
/-- A register four bits on. -/
def nib (r : Nat) : Nat := tab (r % 16) ^^^ (r / 16)
theorem nib_lt (r : Nat) (h : r < 4294967296) : nib r < 4294967296 :=
  Nat.xor_lt_two_pow (n := 32) (tab_lt _) (by omega)
/-- The sum of bytes behind a register. -/
def crcOn : Nat → List Nat → Nat
  | r, [] => r
  | r, b :: l => crcOn (nib (nib (r ^^^ b))) l
theorem crcOn_snoc (r : Nat) (l : List Nat) (b : Nat) : crcOn r (l ++ [b]) = nib (nib (crcOn r l ^^^ b)) := by
  induction l generalizing r with
  | nil => rfl
  | cons x l ih => simpa [crcOn] using ih _
theorem crcOn_lt (l : List Nat) (r : Nat) (h : r < 4294967296) (hb : ∀ b ∈ l, b < 256) : crcOn r l < 4294967296 := by
  induction l generalizing r with
  | nil => exact h
  | cons x l ih =>
    have hx := hb x (by simp)
    exact ih _ (nib_lt _ (nib_lt _ (Nat.xor_lt_two_pow (n := 32) h (by omega)))) (fun b m => hb b (by simp [m]))
def crcN (l : List Nat) : Nat := 4294967295 ^^^ crcOn 4294967295 l

theorem and15 (r : Nat) (h : r < 4294967296) : bits BinOp.and IntKind.u32 (r : Int) 15 = ((r % 16 : Nat) : Int) := by
  have e : bits BinOp.and IntKind.u32 (r : Int) 15 = IntKind.u32.wrap (((BitVec.ofInt 32 (r : Int)) &&& (15#32)).toNat : Int) := rfl
  rw [e, BitVec.toNat_and, BitVec.toNat_ofInt]
  have e2 : ((r : Int) % ((2 ^ 32 : Nat) : Int)).toNat = r := by omega
  have e3 : r &&& 15 = r % 16 := Nat.and_two_pow_sub_one_eq_mod r 4
  rw [e2]
  simp only [BitVec.toNat_ofNat]
  rw [show 15 % 2 ^ 32 = 15 from rfl, e3]
  simp [IntKind.wrap, IntKind.bits, IntKind.signed]
  omega
theorem xor32 (a b : Nat) (ha : a < 4294967296) (hb : b < 4294967296) : bits BinOp.xor IntKind.u32 (a : Int) (b : Int) = ((a ^^^ b : Nat) : Int) := by
  have e : bits BinOp.xor IntKind.u32 (a : Int) (b : Int) = IntKind.u32.wrap (((BitVec.ofInt 32 (a : Int)) ^^^ (BitVec.ofInt 32 (b : Int))).toNat : Int) := rfl
  have hl : a ^^^ b < 4294967296 := Nat.xor_lt_two_pow (n := 32) ha hb
  rw [e, BitVec.toNat_xor, BitVec.toNat_ofInt, BitVec.toNat_ofInt, show ((a : Int) % ((2 ^ 32 : Nat) : Int)).toNat = a by omega, show ((b : Int) % ((2 ^ 32 : Nat) : Int)).toNat = b by omega]
  simp only [IntKind.wrap, IntKind.bits, IntKind.signed]
  generalize a ^^^ b = x at hl ⊢
  simp
  omega

/-- The program's table, as it is laid. -/
def TabAt (w : World) : Prop := ∀ i, i < 16 → w.cell? ⟨0, i, none⟩ = some (.int .u32 (tab i : Nat))
theorem TabAt.below {w w' : World} (h : TabAt w) (hb : Below w.heap.size w w') : TabAt w' := fun i hi => bget hb (h i hi)

set_option maxRecDepth 100000 in
set_option maxHeartbeats 1600000 in
theorem moved_any (r : Nat) (w : World) (hT : TabAt w) (hr : r < 4294967296) :
    Calls Tryz.prog 92 #[.int .u32 (r : Int)] w fun e w' => e = .returned (.int .u32 (nib (nib r) : Nat)) ∧ w' = w := by
  have hn := nib_lt r hr
  obtain ⟨k, hk⟩ : ∃ k, k = r % 16 := ⟨_, rfl⟩
  obtain ⟨t, ht⟩ : ∃ t, t = tab k := ⟨_, rfl⟩
  obtain ⟨q, hq⟩ : ∃ q, q = nib r := ⟨_, rfl⟩
  obtain ⟨k2, hk2⟩ : ∃ k, k = q % 16 := ⟨_, rfl⟩
  obtain ⟨t2, ht2⟩ : ∃ t, t = tab k2 := ⟨_, rfl⟩
  obtain ⟨q2, hq2⟩ : ∃ q', q' = nib q := ⟨_, rfl⟩
  have h1 : bits BinOp.and IntKind.u32 (r : Int) 15 = (k : Int) := by rw [and15 r hr, hk]
  have c1 : w.cell? ⟨0, k, none⟩ = some (.int .u32 (t : Int)) := by rw [ht]; exact hT k (by omega)
  have h2 : bits BinOp.xor IntKind.u32 (t : Int) ((r : Int) / 16) = (q : Int) := by
    rw [show ((r : Int) / 16) = ((r / 16 : Nat) : Int) by omega, xor32 t (r / 16) (by rw [ht]; exact tab_lt _) (by omega), hq, ht, hk]; rfl
  have h3 : bits BinOp.and IntKind.u32 (q : Int) 15 = (k2 : Int) := by rw [and15 q (by rw [hq]; exact hn), hk2]
  have c2 : w.cell? ⟨0, k2, none⟩ = some (.int .u32 (t2 : Int)) := by rw [ht2]; exact hT k2 (by omega)
  have h4 : bits BinOp.xor IntKind.u32 (t2 : Int) ((q : Int) / 16) = (q2 : Int) := by
    rw [show ((q : Int) / 16) = ((q / 16 : Nat) : Int) by omega, xor32 t2 (q / 16) (by rw [ht2]; exact tab_lt _) (by rw [hq]; omega), hq2, ht2, hk2]; rfl
  have i1 : (k : Int) < 16 := by omega
  have i2 : (k2 : Int) < 16 := by omega
  have hlast : nib (nib r) = q2 := by rw [hq2, hq]
  have qb : (q : Int) < 4294967296 := by rw [hq]; omega
  rw [hlast]
  clear hT hk ht hq hk2 ht2 hq2 hlast hn
  go_enter Tryz.func92, Tryz.ntmps92
  go_wp2_with fail
  go_ret
  exact ⟨rfl, rfl⟩

set_option maxRecDepth 100000 in
set_option maxHeartbeats 1600000 in
theorem crcOn0_any (A : Option Addr) (n c : Nat) (l : List Nat) (w : World) (hT : TabAt w) (hr : Rd w 1 A n (bv l)) (hl : l.length = n) (hb : ∀ b ∈ l, b < 256) (hn : n ≤ 1099511627776) :
    Calls Tryz.prog 60 #[.int .u32 0, .slice A n c] w fun e w' => e = .returned (.int .u32 (crcN l : Nat)) ∧ w' = w := by
  have HT := hide hT
  have HR := hide hr
  have HL := hide hl
  have HB := hide hb
  clear hT hr hl hb
  go_enter Tryz.func60, Tryz.ntmps60
  go_wp2_with fail
  go_loopg [5, 12] n (fun gf r i wr => ∃ k : Nat, n ≤ k + gf ∧ k ≤ n ∧ i = .int .i64 (k : Int) ∧ r = .int .u32 (crcOn 4294967295 (l.take k) : Nat) ∧ w = wr)
  case atStart => exact ⟨0, by omega, by omega, rfl, rfl, rfl⟩
  case round =>
    obtain ⟨k, hg, hk, rfl, rfl, rfl⟩ := hrel
    by_cases hlt : k < n
    · obtain ⟨b, hs⟩ : ∃ b, l[k]? = some b := ⟨l[k]'(by rw [HL.out]; exact hlt), List.getElem?_eq_getElem _⟩
      have hb := HB.out b (List.mem_of_getElem? hs)
      obtain ⟨ad, rfl, hc⟩ := HR.out.at_ (k := k) (x := .int .u8 (b : Int)) (by simp [bv, hs])
      have ki0 : (0 : Int) ≤ (k : Int) := by omega
      have ki1 : (k : Int) < (n : Int) := by omega
      have hq := crcOn_lt (l.take k) 4294967295 (by omega) (fun y hy => HB.out y (List.mem_of_mem_take hy))
      obtain ⟨q, hq0⟩ : ∃ q, q = crcOn 4294967295 (l.take k) := ⟨_, rfl⟩
      rw [← hq0] at hq ⊢
      have hx := xor32 q b hq (by omega)
      have hxl : q ^^^ b < 4294967296 := Nat.xor_lt_two_pow (n := 32) hq (by omega)
      obtain ⟨x, hx0⟩ : ∃ x, x = q ^^^ b := ⟨_, rfl⟩
      rw [← hx0] at hx hxl
      have HS := hide hs
      have HX := hide hx0
      have HQ := hide hq0
      clear hs hx0 hq0
      go_wp2_with fail
      refine (moved_any x _ HT.out hxl).mono ?_
      rintro e w2 ⟨rfl, rfl⟩
      go_wp2_with fail
      go_roundg (gk - 1)
      case measure => omega
      case rel => exact ⟨k + 1, by omega, by omega, by go_num, by rw [takeSnoc l k HS.out, crcOn_snoc, ← HQ.out, ← HX.out], rfl⟩
    · obtain rfl : k = n := by omega
      have hq := crcOn_lt l 4294967295 (by omega) HB.out
      rw [List.take_of_length_le (by rw [HL.out]; exact Nat.le_refl _)]
      obtain ⟨q, hq0⟩ : ∃ q, q = crcOn 4294967295 l := ⟨_, rfl⟩
      rw [← hq0] at hq ⊢
      have hz : bits BinOp.xor IntKind.u32 IntKind.u32.max (q : Int) = ((4294967295 ^^^ q : Nat) : Int) := xor32 4294967295 q (by omega) hq
      have hlast : crcN l = 4294967295 ^^^ q := by rw [hq0]; rfl
      obtain ⟨z, hz0⟩ : ∃ z, z = 4294967295 ^^^ q := ⟨_, rfl⟩
      rw [← hz0] at hz hlast
      have HZ := hide hlast
      clear hq0 hz0 hlast
      go_wp2_with fail
      go_ret
      exact ⟨by rw [HZ.out]; rfl, rfl⟩
theorem crc_any (A : Option Addr) (n c : Nat) (l : List Nat) (w : World) (hT : TabAt w) (hr : Rd w 1 A n (bv l)) (hl : l.length = n) (hb : ∀ b ∈ l, b < 256) (hn : n ≤ 1099511627776) :
    Calls Tryz.prog 26 #[.slice A n c] w fun e w' => e = .returned (.int .u32 (crcN l : Nat)) ∧ w' = w := by
  have HC := hide (crcOn0_any A n c l w hT hr hl hb hn)
  clear hT hr hl hb hn
  go_enter Tryz.func26, Tryz.ntmps26
  go_wp2_with fail
  refine HC.out.mono ?_
  rintro e w1 ⟨rfl, rfl⟩
  go_wp2_with fail
  go_ret
  exact ⟨rfl, rfl⟩
end Go.Proofs.YtnaapkoladiomaaGreatDoor.B
