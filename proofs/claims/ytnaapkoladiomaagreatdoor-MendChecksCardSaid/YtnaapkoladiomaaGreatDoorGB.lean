/- Contracts of functions of the program, walked, and plain laws. -/
import Derived.Test.YtnaapkoladiomaaGreatDoorGF
import Derived.Test.YtnaapkoladiomaaGreatDoorRefCheck
import Derived.Test.YtnaapkoladiomaaGreatDoorGE
/- The document's full and header. -/
namespace Go.Proofs.YtnaapkoladiomaaGreatDoor.B
open Go.RowKit

set_option maxRecDepth 100000 in
set_option maxHeartbeats 3200000 in
theorem rfull_any (A : Option Addr) (n c : Nat) (l : List Nat) (w : World) (hr : Rd w 1 A n (bv l)) (hl : l.length = n) (hn : n ≤ 128) :
    Calls Tryz.prog 30 #[.slice A n c] w (Bytes w.heap.size (fill l) w) := by
  obtain ⟨i0, hi0, hz0, hz1, hz2⟩ := info_parts info_u8
  have HR := hide hr
  have HL := hide hl
  clear hr hl
  go_enter Tryz.func30, Tryz.ntmps30
  go_wp2_with (at_builtin; refine wpList_append_rd (v := .slice none 0 0) _ rfl (.tmp 4) (.tmp 5) 32 rfl w.heap.size 5 _ 1 1 Tryz.underlying32 info_u8 rfl (by decide) rfl (own_nil _ _ _ _) rfl HR.out (bv_one _) ?c1 ?c2 ?c3 ?_; (case c1 => simp only [maxLen]; omega); (case c2 => omega); (case c3 => simp); intro v1 w1 hown1 hg1 hat1; simp only [Nat.zero_add, List.nil_append] at hown1; have HO := hide hown1; have HB := hide (bG (Below.refl w.heap.size w) (own_nil w w.heap.size 5 1) (Nat.le_refl _) hg1); clear hown1 hg1 hat1)
  go_loopg [3] (128 - n) (fun gf v wr => ∃ j : Nat, n ≤ j ∧ j ≤ 128 ∧ 128 ≤ j + gf ∧ wr.ownsRow w.heap.size 5 1 v j (bv (l ++ zs (j - n))) ∧ Below w.heap.size w wr)
  case atStart => exact ⟨n, by omega, by omega, by omega, by simpa [zs] using HO.out, HB.out⟩
  case round =>
    obtain ⟨j, hj1, hj2, hj3, hv, hlow⟩ := hrel
    obtain ⟨A3, c3, rfl, hc3⟩ := own_slice hv
    have hsz : w.heap.size ≤ wr.heap.size := hlow.size
    have hvA : ∀ o : Obj, (wr.alloc o).ownsRow w.heap.size 5 1 (.slice A3 j c3) j (bv (l ++ zs (j - n))) := fun o => own_below hv (bA (Below.refl _ _) o)
    have HV := hide hv
    have HLow := hide hlow
    clear hv hlow
    by_cases hlt : j < 128
    · have h1 : (j : Int) < 128 := by omega
      go_wp2_with (at_builtin; refine wpList_append_lies _ rfl _ _ _ rfl w.heap.size 5 i0 _ 1 1 Tryz.underlying32 hi0 hz0 hz1 hz2 rfl (by omega) (.slice A3 j c3) j (bv (l ++ zs (j - n))) rfl (hvA _) ⟨wr.heap.size, 0, none⟩ 1 1 [.int .u8 0] rfl rfl (by have := World.news_of_block (cs := #[.int .u8 0]) (t := 5) (fr := (0, 0)) (heap_alloc_new wr _); simpa using this) (by simp [Value.oneCell']) (by omega) (by simp only [maxLen]; omega) (by omega) (by simp; omega) (wr.heap.size + 1) (by simp) ?_; intro g' cap wx hown1 hgrow hat hlt')
      go_roundg (gk - 1)
      case measure => omega
      case rel =>
        refine ⟨j + 1, by omega, by omega, by omega, ?_, (HLow.out.alloc hsz _).grown hgrow (by simp; omega) (fun q hq => own_base HV.out q hq)⟩
        rw [show j + 1 - n = (j - n) + 1 by omega, zs_add, ← List.append_assoc, bv_append]
        exact hown1
    · obtain rfl : j = 128 := by omega
      go_wp2_with fail
      go_ret
      have hown := HV.out
      have e : fill l = l ++ zs (128 - n) := by rw [← HL.out]; rfl
      have ef : (fill l).length = 128 := by rw [e]; simp [zs, HL.out]; omega
      obtain ⟨g, cap, hu⟩ := own_form hown (by omega)
      injection hu with hu1 hu2 hu3
      subst hu1 hu3
      rw [← e] at hown
      exact Bytes.shut ef hown HLow.out

theorem Rd.take1 {w : World} {A : Option Addr} {n : Nat} {xs : List Value} (h : Rd w 1 A n xs) (m : Nat) (hm : m ≤ n) : Rd w 1 A m (xs.take m) := by
  have hl := h.len
  refine ⟨by simp; omega, fun hn => ?_⟩
  obtain ⟨ad, e, hc⟩ := h.cells (by omega)
  refine ⟨ad, e, fun j u hu => hc j u ?_⟩
  rw [List.getElem?_take] at hu
  split at hu
  · exact hu
  · cases hu

set_option maxRecDepth 100000 in
set_option maxHeartbeats 3200000 in
theorem rheader_any (epoch : Nat) (A : Option Addr) (n c : Nat) (x : List Nat) (w : World) (hr : Rd w 1 A n (bv x)) (hl : x.length = n) (hb : ∀ b ∈ x, b < 256) (hn : n ≤ 131072) (he : epoch ≤ 1099511627775) :
    Calls Tryz.prog 31 #[.int .i64 (epoch : Int), .slice A n c] w (Bytes w.heap.size (hd4 epoch n (crcN x)) w) := by
  have hcl := crcN_lt x hb
  have HBy := hide hb
  have HL := hide hl
  have HR := hide hr
  have HD := hide (hd4_eq epoch n (crcN x))
  have h8 : ∀ y, (le 8 y).length = 8 := fun y => le_length 8 y
  have H8 := hide h8
  have HP := hide (rputWord_any none 0 0 epoch [] w (Rd.none_ _ _) rfl (by omega) (by omega))
  have HC := hide (fun W (hW : Below w.heap.size w W) => rcrc_any A n c x W (HR.out.below hW) HL.out HBy.out (by omega))
  clear hr hl hb h8
  obtain ⟨q, hq⟩ : ∃ q, q = crcN x := ⟨_, rfl⟩
  rw [← hq] at hcl HD HC ⊢
  clear hq
  go_enter Tryz.func31, Tryz.ntmps31
  go_wp2_with fail
  refine HP.out.mono ?_
  intro e w1 hB1
  obtain ⟨g1, c1, N1, hN1, rfl, hown1, hb1⟩ := hB1.open_
  rw [List.nil_append, H8.out] at hN1
  subst hN1
  rw [List.nil_append] at hown1
  have HO1 := hide (Rd.of_own hown1)
  have HB1 := hide hb1
  clear hown1 hb1 hB1
  go_wp2_with fail
  refine (rputWord_any (some ⟨g1, 0, none⟩) 8 c1 n (le 8 epoch) _ HO1.out (H8.out _) (by omega) (by omega)).mono ?_
  intro e w2 hB2
  obtain ⟨g2, c2, N2, hN2, rfl, hown2, hb2⟩ := (hB2.low HB1.out HB1.out.size).open_
  rw [List.length_append, H8.out, H8.out] at hN2
  subst hN2
  have HO2 := hide (Rd.of_own hown2)
  have HB2 := hide hb2
  clear hown2 hb2 hB2
  go_wp2_with fail
  refine (HC.out _ HB2.out).mono ?_
  rintro e w2 ⟨rfl, rfl⟩
  go_wp2_with fail
  refine (rputWord_any (some ⟨g2, 0, none⟩) (8 + 8) c2 q (le 8 epoch ++ le 8 n) _ HO2.out (by rw [List.length_append, H8.out, H8.out]) (by omega) (by omega)).mono ?_
  intro e w3 hB3
  obtain ⟨g3, c3, N3, hN3, rfl, hown3, hb3⟩ := (hB3.low HB2.out HB2.out.size).open_
  rw [List.length_append, List.length_append, H8.out, H8.out, H8.out] at hN3
  subst hN3
  have HO3 := hide (Rd.of_own hown3)
  have HB3 := hide hb3
  clear hown3 hb3 hB3
  go_wp2_with fail
  refine (rfull_any (some ⟨g3, 0, none⟩) (8 + 8 + 8) c3 _ _ HO3.out (by rw [List.length_append, List.length_append, H8.out, H8.out, H8.out]) (by omega)).mono ?_
  intro e w4 hB4
  obtain ⟨g4, c4, N4, hN4, rfl, hown4, hb4⟩ := (hB4.low HB3.out HB3.out.size).open_
  have hN5 : N4 = 128 := by rw [← hN4]; simp [fill, H8.out]
  subst hN5
  have hc4 : 128 ≤ c4 := by obtain ⟨_, _, h, h2⟩ := own_slice hown4; injection h with _ _ h3; omega
  have HO4 := hide (Rd.of_own hown4)
  have HB4 := hide hb4
  clear hown4 hb4 hB4 hN4
  have e4 : (bv (fill (le 8 epoch ++ le 8 n ++ le 8 q))).take 120 = bv (le 8 epoch ++ (le 8 n ++ (le 8 q ++ zs 96))) := by
    have : fill (le 8 epoch ++ le 8 n ++ le 8 q) = (le 8 epoch ++ (le 8 n ++ (le 8 q ++ zs 96))) ++ zs 8 := by
      simp only [fill, List.length_append, H8.out, List.append_assoc]
      rfl
    rw [this, bv_append, List.take_left' (by simp only [bv_length, List.length_append, H8.out, zs_length])]
  have HO5 := hide (show Rd w4 1 (some ⟨g4, 0, none⟩) 120 (bv (le 8 epoch ++ (le 8 n ++ (le 8 q ++ zs 96)))) by rw [← e4]; exact HO4.out.take1 120 (by omega))
  clear e4
  have e5 : (le 8 epoch ++ (le 8 n ++ (le 8 q ++ zs 96))).length = 120 := by simp only [List.length_append, H8.out, zs_length]
  have HE5 := hide e5
  clear e5
  go_wp2_with fail
  refine (rputWord_any (some ⟨g4, 0, none⟩) 120 c4 epoch _ _ HO5.out HE5.out (by omega) (by omega)).mono ?_
  intro e w5 hB5
  obtain ⟨g5, c5, N5, hN5, rfl, hown5, hb5⟩ := (hB5.low HB4.out HB4.out.size).open_
  have e6 : hd4 epoch n q = le 8 epoch ++ (le 8 n ++ (le 8 q ++ zs 96)) ++ le 8 epoch := by rw [HD.out]; simp only [List.append_assoc]
  rw [← e6] at hown5 hN5
  have HF := hide (hB5.low HB4.out HB4.out.size)
  have HN := hide hN5
  have HOw := hide hown5
  have HB5 := hide hb5
  clear hown5 hb5 hB5 e6 hN5 HF HD
  go_wp2_with fail
  go_ret
  exact Bytes.shut HN.out HOw.out HB5.out
end Go.Proofs.YtnaapkoladiomaaGreatDoor.B
/- The document's Layout of a state that fits and that can be put into bytes. -/
namespace Go.Proofs.YtnaapkoladiomaaGreatDoor.B
open Go.RowKit

/-- The cells of writes, each of 128 bytes: the blocks, and their room. -/
def wrD : Int → List (Nat × Nat) → List Value
  | _, [] => []
  | s, h :: r => [.int .i64 s, .slice (some ⟨h.1, 0, none⟩) 128 h.2] ++ wrD (s + 1) r
theorem wrD_snoc (s : Int) (gs : List (Nat × Nat)) (h : Nat × Nat) : wrD s (gs ++ [h]) = wrD s gs ++ [.int .i64 (s + gs.length), .slice (some ⟨h.1, 0, none⟩) 128 h.2] := by
  induction gs generalizing s with
  | nil => simp [wrD]
  | cons g r ih =>
    simp only [List.cons_append, wrD, ih (s + 1), List.length_cons]
    rw [show s + 1 + (r.length : Int) = s + ((r.length + 1 : Nat) : Int) by omega]
    simp
theorem wrD_one (s : Int) (gs : List (Nat × Nat)) : ∀ u ∈ wrD s gs, u.oneCell' = true := by
  induction gs generalizing s with
  | nil => simp [wrD]
  | cons g r ih =>
    intro u hu
    simp only [wrD, List.cons_append, List.nil_append, List.mem_cons] at hu
    rcases hu with rfl | rfl | hu
    · rfl
    · rfl
    · exact ih _ u hu
structure RLO (B : Nat) (slot : Int) (x : List Nat) (gs : List (Nat × Nat)) (k : Nat) (v : Value) (W : World) : Prop where
  row : W.ownsRow B 34 2 v k (wrD (slot + 1) gs)
  len : gs.length = k
  pieces : ∀ j h, gs[j]? = some h → Rd W 1 (some ⟨h.1, 0, none⟩) 128 (bv (fill (chunk x j))) ∧ 128 ≤ h.2
  apart : ∀ h ∈ gs, v.ownBlock ≠ some h.1
  low : ∀ h ∈ gs, B ≤ h.1
theorem RLO.below {B k : Nat} {slot : Int} {x : List Nat} {gs : List (Nat × Nat)} {v : Value} {W W' : World} (h : RLO B slot x gs k v W) (hb : Below W.heap.size W W') : RLO B slot x gs k v W' :=
  ⟨own_below h.row hb, h.len, fun j q hq => ⟨(h.pieces j q hq).1.below hb, (h.pieces j q hq).2⟩, h.apart, h.low⟩
theorem Rd.grown {w w' : World} {size n : Nat} {a : Addr} {xs : List Value} {row : Option Nat} (h : Rd w size (some a) n xs) (hs : 0 < size) (hn : 0 < n) (hg : w.grownBy w' row) (hne : row ≠ some a.block) : Rd w' size (some a) n xs := by
  refine h.move fun ad e => ?_
  cases e
  obtain ⟨ad, e, hl⟩ := h.lt hs hn
  cases e
  exact hg.block _ hl (fun q => hne q.symm)
/-- One write more. -/
theorem RLO.step {B k q cq g cap H : Nat} {slot : Int} {x : List Nat} {gs : List (Nat × Nat)} {v : Value} {W W' : World} (h : RLO B slot x gs k v W) (hq : Rd W 1 (some ⟨q, 0, none⟩) 128 (bv (fill (chunk x k)))) (hcq : 128 ≤ cq)
    (hown : W'.ownsRow B 34 2 (.slice (some ⟨g, 0, none⟩) (k + 1) cap) (k + 1) (wrD (slot + 1) gs ++ [.int .i64 (slot + 1 + k), .slice (some ⟨q, 0, none⟩) 128 cq])) (hg : W.grownBy W' v.ownBlock)
    (hlie : v.ownBlock = some g ∨ g = H) (hH : W.heap.size = H) (hqv : v.ownBlock ≠ some q) (hqB : B ≤ q) : RLO B slot x (gs ++ [(q, cq)]) (k + 1) (.slice (some ⟨g, 0, none⟩) (k + 1) cap) W' := by
  have hlt : ∀ j (p : Nat × Nat), (gs ++ [(q, cq)])[j]? = some p → Rd W 1 (some ⟨p.1, 0, none⟩) 128 (bv (fill (chunk x j))) ∧ 128 ≤ p.2 ∧ v.ownBlock ≠ some p.1 := fun j p hp => by
    by_cases hj : j < gs.length
    · rw [List.getElem?_append_left hj] at hp
      exact ⟨(h.pieces j p hp).1, (h.pieces j p hp).2, h.apart p (List.mem_of_getElem? hp)⟩
    · have hl := (List.getElem?_eq_some_iff.1 hp).1
      have hjk : j = gs.length := by simp at hl; omega
      subst hjk
      simp at hp
      subst hp
      rw [h.len]
      exact ⟨hq, hcq, hqv⟩
  refine ⟨?_, by simp [h.len], fun j p hp => ?_, fun p hp => ?_, fun p hp => ?_⟩
  · rw [wrD_snoc, h.len]; exact hown
  · obtain ⟨h1, h2, h3⟩ := hlt j p hp
    exact ⟨h1.grown (by omega) (by omega) hg h3, h2⟩
  · obtain ⟨j, hj, rfl⟩ := List.mem_iff_getElem.1 hp
    obtain ⟨h1, h2, h3⟩ := hlt j _ (List.getElem?_eq_getElem hj)
    intro e
    simp only [Value.ownBlock, Option.some.injEq] at e
    rcases hlie with hl | hl
    · exact h3 (by rw [hl, e])
    · obtain ⟨ad, e2, h4⟩ := h1.lt (by omega) (by omega)
      cases e2
      simp only at h4
      omega
  · rw [List.mem_append, List.mem_singleton] at hp
    rcases hp with hp | rfl
    · exact h.low p hp
    · exact hqB
theorem Rd.set {w : World} {size n q o : Nat} {a : Addr} {xs : List Value} (h : Rd w size (some a) n xs) (hq : a.block ≠ q) (u : Value) : Rd (w.setCell ⟨q, o, none⟩ u) size (some a) n xs :=
  h.move fun ad e => by cases e; exact Below.heap_setCell _ _ _ _ hq
theorem RLO.set {B k q o : Nat} {slot : Int} {x : List Nat} {gs : List (Nat × Nat)} {v : Value} {W : World} (h : RLO B slot x gs k v W) (hq : q < B) (u : Value) : RLO B slot x gs k v (W.setCell ⟨q, o, none⟩ u) := by
  refine ⟨?_, h.len, fun j p hp => ⟨(h.pieces j p hp).1.set (by have := h.low p (List.mem_of_getElem? hp); simp only; omega) u, (h.pieces j p hp).2⟩, h.apart, h.low⟩
  obtain ⟨h1, h2⟩ := h.row
  refine ⟨h1, ?_⟩
  rcases h2 with h2 | ⟨g, cap, cur, rfl, h3, h4, h5⟩
  · exact .inl h2
  · exact .inr ⟨g, cap, cur, rfl, h3, (Below.heap_setCell _ _ _ _ (by simp only; omega)).trans h4, h5⟩
theorem RLO.lower {B B' k : Nat} {slot : Int} {x : List Nat} {gs : List (Nat × Nat)} {v : Value} {W : World} (h : RLO B slot x gs k v W) (hB : B' ≤ B) : RLO B' slot x gs k v W :=
  ⟨own_low h.row hB, h.len, h.pieces, h.apart, fun p hp => Nat.le_trans hB (h.low p hp)⟩
def RLayPost (w : World) (slot : Int) (epoch : Nat) (x : List Nat) (e : Ending) (w' : World) : Prop :=
  (∃ g cg gs A6 c6, e = .returned (.tuple #[.slice A6 ((x.length + 127) / 128) c6, .agg #[.int .i64 slot, .slice (some ⟨g, 0, none⟩) 128 cg], .int .i64 0]) ∧ RLO w.heap.size slot x gs ((x.length + 127) / 128) (.slice A6 ((x.length + 127) / 128) c6) w' ∧
    Rd w' 1 (some ⟨g, 0, none⟩) 128 (bv (hd4 epoch x.length (crcN x))) ∧ 128 ≤ cg ∧ (Value.slice A6 ((x.length + 127) / 128) c6).ownBlock ≠ some g) ∧ Below w.heap.size w w'

set_option maxRecDepth 100000 in
set_option maxHeartbeats 6400000 in
theorem rlayout_ok (A : Option Addr) (n c : Nat) (ss : List ByteArray) (st hd se : Int) (sl epoch : Nat) (a0 a1 a2 a3 a4 a5 : Value) (x : List Nat) (w : World) (hl : ss.length = n) (hn : n ≤ 9223372036854775807) (hz : ∀ s ∈ ss, s.size ≤ 9223372036854775807) (hr : Rd w 1 A n (strs ss))
    (hE : emptyE ss st hd se sl = 0) (hsl : sl ≤ 1024) (he : 1 ≤ epoch ∧ epoch ≤ 1099511627775) (hx : x.length ≤ 131072) (hb : ∀ b ∈ x, b < 256) (ho : ∀ u ∈ [a0, a1, a2, a3, a4, a5], u.oneCell' = true)
    (HF : ∀ W, Below w.heap.size w W → Calls Tryz.prog 28 #[cfgV A n c st hd se sl, .agg #[a0, a1, a2, a3, a4, a5]] W fun e w' => e = .returned (.bool true) ∧ Below W.heap.size W w')
    (HP : ∀ W, Below w.heap.size w W → Calls Tryz.prog 29 #[.agg #[a0, a1, a2, a3, a4, a5]] W (Coded W.heap.size x W)) :
    Calls Tryz.prog 7 #[cfgV A n c st hd se sl, .int .i64 (epoch : Int), .agg #[a0, a1, a2, a3, a4, a5]] w (RLayPost w ((epoch : Int) % 2 * sl) epoch x) := by
  have HF' := hide HF
  have HP' := hide HP
  have HBy := hide hb
  have HRC := hide (fun W (hW : Below w.heap.size w W) => rcheck_any A n c ss st hd se sl W hl hn hz (hr.below hW))
  have HE := hide hE
  obtain ⟨he1, he2⟩ := he
  have hq0 : 0 ≤ (epoch : Int) % 2 * (sl : Int) := Int.mul_nonneg (by omega) (by omega)
  have hq1 : (epoch : Int) % 2 * (sl : Int) ≤ 1024 := by
    rcases (by omega : (epoch : Int) % 2 = 0 ∨ (epoch : Int) % 2 = 1) with h | h <;> rw [h] <;> omega
  clear HF HP hb hl hr hz hE
  go_enter Tryz.func7, Tryz.ntmps7
  go_wp2_with fail
  have HB0 := hide (bA (bA (bA (Below.refl w.heap.size w) (.cells (cfgC A n c st hd se sl) 24)) (.cells #[a0, a1, a2, a3, a4, a5] 29)) (.cells #[.int .i64 0, .slice none 0 0] 34))
  have HC0 := hide (((Blk.new1 (w := w) rfl 24 (cfgC A n c st hd se sl)).alloc (.cells #[a0, a1, a2, a3, a4, a5] 29)).alloc (.cells #[.int .i64 0, .slice none 0 0] 34))
  have HS0 := hide ((Blk.new1 (w := w.alloc (.cells (cfgC A n c st hd se sl) 24)) (g := w.heap.size + 1) (by simp) 29 #[a0, a1, a2, a3, a4, a5]).alloc (.cells #[.int .i64 0, .slice none 0 0] 34))
  have HZ0 := hide (Blk.new1 (w := (w.alloc (.cells (cfgC A n c st hd se sl) 24)).alloc (.cells #[a0, a1, a2, a3, a4, a5] 29)) (g := w.heap.size + 1 + 1) (by simp) 34 #[.int .i64 0, .slice none 0 0])
  generalize hW : ((w.alloc (.cells (cfgC A n c st hd se sl) 24)).alloc (.cells #[a0, a1, a2, a3, a4, a5] 29)).alloc (.cells #[.int .i64 0, .slice none 0 0] 34) = W0 at *
  clear hW
  refine (HRC.out _ HB0.out).mono ?_
  rintro e w1 ⟨rfl, hb1⟩
  rw [HE.out]
  have HB1 := hide (bT HB0.out hb1)
  have HC1 := hide (HC0.out.below hb1)
  have HS1 := hide (HS0.out.below hb1)
  have HZ1 := hide (HZ0.out.below hb1)
  clear hb1 HB0 HC0 HS0 HZ0
  have o0 := ho a0 (by simp)
  have o1 := ho a1 (by simp)
  have o2 := ho a2 (by simp)
  have o3 := ho a3 (by simp)
  have o4 := ho a4 (by simp)
  have o5 := ho a5 (by simp)
  have c0 : w1.cell? ⟨w.heap.size, 0, none⟩ = some (.slice A n c) := HC1.out.cell 0
  have c1 : w1.cell? ⟨w.heap.size, 1, none⟩ = some (.int .i64 st) := HC1.out.cell 1
  have c2 : w1.cell? ⟨w.heap.size, 2, none⟩ = some (.int .i64 hd) := HC1.out.cell 2
  have c3 : w1.cell? ⟨w.heap.size, 3, none⟩ = some (.int .i64 se) := HC1.out.cell 3
  have c4 : w1.cell? ⟨w.heap.size, 4, none⟩ = some (.int .i64 sl) := HC1.out.cell 4
  have s0 : w1.cell? ⟨w.heap.size + 1, 0, none⟩ = some a0 := HS1.out.cell 0
  have s1 : w1.cell? ⟨w.heap.size + 1, 1, none⟩ = some a1 := HS1.out.cell 1
  have s2 : w1.cell? ⟨w.heap.size + 1, 2, none⟩ = some a2 := HS1.out.cell 2
  have s3 : w1.cell? ⟨w.heap.size + 1, 3, none⟩ = some a3 := HS1.out.cell 3
  have s4 : w1.cell? ⟨w.heap.size + 1, 4, none⟩ = some a4 := HS1.out.cell 4
  have s5 : w1.cell? ⟨w.heap.size + 1, 5, none⟩ = some a5 := HS1.out.cell 5
  go_wp2_with fail
  refine (HF'.out _ HB1.out).mono ?_
  rintro e w2 ⟨rfl, hb2⟩
  have HB2 := hide (bT HB1.out hb2)
  have HC2 := hide (HC1.out.below hb2)
  have HS2 := hide (HS1.out.below hb2)
  have HZ2 := hide (HZ1.out.below hb2)
  have d0 := bget hb2 s0
  have d1 := bget hb2 s1
  have d2 := bget hb2 s2
  have d3 := bget hb2 s3
  have d4 := bget hb2 s4
  have d5 := bget hb2 s5
  clear hb2 HB1 HC1 HS1 HZ1 c0 c1 c2 c3 c4 s0 s1 s2 s3 s4 s5
  go_wp2_with fail
  refine (HP'.out _ HB2.out).mono ?_
  rintro e w3 ⟨⟨g3, c3, rfl, hown3⟩, hb3⟩
  have HB3 := hide (bT HB2.out hb3)
  have HC3 := hide (HC2.out.below hb3)
  have HZ3 := hide (HZ2.out.below hb3)
  have HX3 := hide (Rd.of_own hown3)
  have e4 : w3.cell? ⟨w.heap.size, 4, none⟩ = some (.int .i64 sl) := HC3.out.cell 4
  obtain ⟨N, hN⟩ : ∃ N, x.length = N := ⟨_, rfl⟩
  rw [hN] at hx HX3 ⊢
  have HN := hide hN
  have hc3 : N ≤ c3 := by obtain ⟨_, _, h, h2⟩ := own_slice hown3; rw [hN] at h; injection h with _ _ h3; omega
  clear hb3 HB2 HC2 HS2 HZ2 d0 d1 d2 d3 d4 d5 hown3 HC3 o0 o1 o2 o3 o4 o5 ho HF' HP' HRC hN
  go_wp2_with fail
  obtain ⟨M, hM⟩ : ∃ M, M = (N + 127) / 128 := ⟨_, rfl⟩
  go_loopg [12, 13] M (fun gf l i wr => ∃ (k j : Nat) (gs : List (Nat × Nat)), M ≤ k + gf ∧ k ≤ M ∧ j = 128 * k ∧ i = .int .i64 (j : Int) ∧ RLO w3.heap.size ((epoch : Int) % 2 * (sl : Int)) x gs k l wr ∧ Below w3.heap.size w3 wr)
  case atStart => exact ⟨0, 0, [], by omega, by omega, rfl, rfl, ⟨own_nil _ _ _ _, rfl, fun j h hj => by simp at hj, fun h hh => (by cases hh), fun h hh => (by cases hh)⟩, Below.refl _ _⟩
  case round =>
    obtain ⟨k, j, gs, hg, hk, hj, rfl, hlo, hlow⟩ := hrel
    have HLo := hide hlo
    have HLow := hide hlow
    obtain ⟨A12, c12, rfl, hc12⟩ := own_slice hlo.row
    have HJ := hide hj
    have hjN : 128 * k = j := hj.symm
    clear hlo hlow hj
    by_cases hlt : j < N
    · have h1 : (j : Int) < (N : Int) := by omega
      have hj0 : (0 : Int) ≤ (j : Int) := by omega
      have hm1 : (j : Int) ≤ min ((j : Int) + 128) (N : Int) := by omega
      have hm2 : min ((j : Int) + 128) (N : Int) ≤ (c3 : Int) := by omega
      have hm : (min ((j : Int) + 128) (N : Int)).toNat - j = min 128 (N - j) := by omega
      have HM := hide hm
      have hp := (HX3.out.below HLow.out).piece HN.out k
      rw [hjN] at hp
      have HPc := hide hp
      have HK := hide hjN
      clear hm hp hjN
      go_wp2_with fail
      rw [HM.out]
      refine (rfull_any (some ⟨g3, j, none⟩) (min 128 (N - j)) (c3 - j) (chunk x k) _ HPc.out (by rw [chunk_len, HN.out, HK.out]) (by omega)).mono ?_
      intro e w4 hB4
      obtain ⟨g4, c4, N4, hN4, rfl, hown4, hb4⟩ := hB4.open_
      have hN5 : N4 = 128 := by rw [← hN4]; simp [fill, chunk_len, HN.out]; omega
      subst hN5
      have hc4 : 128 ≤ c4 := by obtain ⟨_, _, h, h2⟩ := own_slice hown4; injection h with _ _ h3; omega
      have hlo4 := HLo.out.below hb4
      have hne : (Value.slice A12 k c12).ownBlock ≠ some g4 := fun e => by
        have h5 := own_base hown4 g4 rfl
        have h6 := own_lt HLo.out.row g4 e
        omega
      have h5 := own_base hown4 g4 rfl
      have HQB := hide (show w3.heap.size ≤ g4 from Nat.le_trans HLow.out.size h5)
      clear h5
      have HL4 := hide hlo4
      have HR4 := hide (Rd.of_own hown4)
      have HNe := hide hne
      have HB4 := hide (bT HLow.out hb4)
      have hB4s : w3.heap.size ≤ w4.heap.size := HB4.out.size
      have hbase := fun q (hq : (Value.slice A12 k c12).ownBlock = some q) => own_base hlo4.row q hq
      have HBs := hide hbase
      have hvA : ∀ o : Obj, (w4.alloc o).ownsRow w3.heap.size 34 2 (.slice A12 k c12) k (wrD ((epoch : Int) % 2 * (sl : Int) + 1) gs) := fun o => own_below hlo4.row (bA (Below.refl _ _) o)
      obtain ⟨i0, hi0, hz0, hz1, hz2⟩ := info_parts info_write
      clear hb4 hB4 hown4 hlo4 hne hN4 HLo HLow hbase
      go_wp2_with (at_builtin; refine wpList_append_lies _ rfl _ _ _ rfl w3.heap.size 34 i0 _ 2 32 Tryz.underlying31 hi0 hz0 hz1 hz2 rfl (by omega) (.slice A12 k c12) k (wrD ((epoch : Int) % 2 * (sl : Int) + 1) gs) rfl (hvA _) ⟨w4.heap.size, 0, none⟩ 1 1 [.int .i64 ((epoch : Int) % 2 * (sl : Int) + 1 + k), .slice (some ⟨g4, 0, none⟩) 128 c4] rfl rfl (by have := World.news_of_block (cs := #[.int .i64 ((epoch : Int) % 2 * (sl : Int) + 1 + k), .slice (some ⟨g4, 0, none⟩) 128 c4]) (t := 34) (fr := (0, 0)) (heap_alloc_new w4 _); simpa using this) (by simp [Value.oneCell']) (by omega) (by simp only [maxLen]; omega) (by omega) (by simp; omega) (w4.heap.size + 1) (by simp) ?_; intro g' cap wx hown1 hgrow hat hlt')
      go_roundg (gk - 1)
      case measure => have := HJ.out; omega
      case rel =>
        have hjj := HJ.out
        refine ⟨k + 1, j + 128, gs ++ [(g4, c4)], by omega, by omega, by omega, by go_num, ?_, ?_⟩
        · exact RLO.step (HL4.out.below (bA (Below.refl _ _) _)) (HR4.out.below (bA (Below.refl _ _) _)) hc4 hown1 hgrow hat (by simp) HNe.out HQB.out
        · exact (bA HB4.out _).grown hgrow (by simp; omega) (fun q hq => HBs.out q hq)
    · have hkM : k = M := by have := HJ.out; omega
      subst hkM
      have hnj : ¬ (j : Int) < (N : Int) := by omega
      go_wp2_with fail
      refine (rheader_any epoch (some ⟨g3, 0, none⟩) N c3 x _ (HX3.out.below HLow.out) HN.out HBy.out (by omega) (by omega)).mono ?_
      intro e w5 hB5
      obtain ⟨g5, c5, N5, hN5, rfl, hown5, hb5⟩ := hB5.open_
      have hN6 : N5 = 128 := by rw [← hN5]; exact hd4_len _ _ _
      subst hN6
      have hc5 : 128 ≤ c5 := by obtain ⟨_, _, h, h2⟩ := own_slice hown5; injection h with _ _ h3; omega
      have HZ5 := hide ((HZ3.out.below HLow.out).below hb5)
      have HL5 := hide (HLo.out.below hb5)
      have HO5 := hide (Rd.of_own hown5)
      have HB5 := hide (bT HB3.out (bT HLow.out hb5))
      have hs3 : w.heap.size ≤ w3.heap.size := HB3.out.size
      have HS3 := hide hs3
      have HAp := hide (show (Value.slice A12 k c12).ownBlock ≠ some g5 from fun e => by
        have h5 := own_base hown5 g5 rfl
        have h6 := own_lt HLo.out.row g5 e
        omega)
      have HZ3lt := hide HZ3.out.lt
      have HB5lt := hide (show w3.heap.size ≤ g5 from Nat.le_trans HLow.out.size (own_base hown5 g5 rfl))
      have z0 : w5.cell? ⟨w.heap.size + 1 + 1, 0, none⟩ = some (.int .i64 0) := HZ5.out.cell 0
      have z1 : w5.cell? ⟨w.heap.size + 1 + 1, 1, none⟩ = some (.slice none 0 0) := HZ5.out.cell 1
      have f0 := HZ5.out.frozen 0
      have f1 := HZ5.out.frozen 1
      clear hb5 hB5 hown5 hN5 HLo HLow hs3 HB3 HZ3 e4
      go_wp2_with fail
      have HZ6 := (HZ5.out.set_ 0 (.int .i64 ((epoch : Int) % 2 * (sl : Int)))).set_ 1 (.slice (some ⟨g5, 0, none⟩) 128 c5)
      have y0 := HZ6.cell 0
      have y1 := HZ6.cell 1
      refine bodyPost_ret (v := .tuple #[.slice A12 ((N + 127) / 128) c12, .agg #[.int .i64 ((epoch : Int) % 2 * (sl : Int)), .slice (some ⟨g5, 0, none⟩) 128 c5], .int .i64 0]) (by simp [results, Tryz.results7, go_sem, y0, y1]) rfl ?_
      have hz3 := HZ3lt.out
      have hs := HS3.out
      have hbz := HB5lt.out
      refine ⟨⟨g5, c5, gs, A12, c12, by rw [HN.out], ?_, ?_, hc5, by rw [HN.out, ← hM]; exact HAp.out⟩, bS (bS HB5.out (by omega) _) (by omega) _⟩
      · rw [HN.out, ← hM]; exact ((HL5.out.set hz3 _).set hz3 _).lower hs
      · rw [HN.out]; exact (HO5.out.set (by simp only; omega) _).set (by simp only; omega) _
end Go.Proofs.YtnaapkoladiomaaGreatDoor.B
/- The document's image of a new store: plain laws, cells of its writes. -/
namespace Go.Proofs.YtnaapkoladiomaaGreatDoor.B
open Go.RowKit Go.Shelf

theorem lay_nil (a : List Nat) (n : Nat) : lay a n [] = a := by simp [lay, splice]
theorem lay_snoc (a t : List Nat) (n b : Nat) (h : n + t.length < a.length) : lay a n (t ++ [b]) = (lay a n t).set (n + t.length) b := by
  simp only [lay, splice]
  rw [List.set_append_right _ _ (by simp; omega)]
  congr 1
  rw [List.length_take, Nat.min_eq_left (by omega), show n + t.length - n = t.length by omega]
  rw [List.set_append_right _ _ (by omega), List.append_assoc, Nat.sub_self]
  congr 1
  rw [List.length_append, List.drop_eq_getElem_cons (by omega : n + t.length < a.length)]
  simp [Nat.add_assoc]
/-- All writes' cells. -/
def allD (s : Nat) (gs : List (Nat × Nat)) (g cg : Nat) : List Value := wrD ((s : Int) + 1) gs ++ [.int .i64 (s : Int), .slice (some ⟨g, 0, none⟩) 128 cg]
theorem wrD_len (s : Int) (gs : List (Nat × Nat)) : (wrD s gs).length = gs.length * 2 := by
  induction gs generalizing s with
  | nil => rfl
  | cons g r ih => simp only [wrD, List.length_append, ih, List.length_cons, List.length_nil]; omega
theorem wrD_get (s : Int) (gs : List (Nat × Nat)) (k : Nat) (b : Nat × Nat) (h : gs[k]? = some b) : (wrD s gs)[k * 2]? = some (.int .i64 (s + k)) ∧ (wrD s gs)[k * 2 + 1]? = some (.slice (some ⟨b.1, 0, none⟩) 128 b.2) := by
  induction gs generalizing s k with
  | nil => simp at h
  | cons g r ih =>
    cases k with
    | zero => simp at h; subst h; simp [wrD]
    | succ k =>
      obtain ⟨h1, h2⟩ := ih (s + 1) k (by simpa using h)
      simp only [wrD]
      rw [List.getElem?_append_right (by simp only [List.length_cons, List.length_nil]; omega), List.getElem?_append_right (by simp only [List.length_cons, List.length_nil]; omega)]
      refine ⟨?_, ?_⟩
      · rw [show (k + 1) * 2 - ([Value.int .i64 s, .slice (some ⟨g.1, 0, none⟩) 128 g.2] : List Value).length = k * 2 by simp only [List.length_cons, List.length_nil]; omega, h1]
        congr 2; omega
      · rw [show (k + 1) * 2 + 1 - ([Value.int .i64 s, .slice (some ⟨g.1, 0, none⟩) 128 g.2] : List Value).length = k * 2 + 1 by simp only [List.length_cons, List.length_nil]; omega, h2]
theorem RLO.cells {B epoch g cg s M : Nat} {x : List Nat} {gs : List (Nat × Nat)} {v : Value} {W : World} (h : RLO B (s : Int) x gs M v W) (hM : M = (x.length + 127) / 128) (hh : Rd W 1 (some ⟨g, 0, none⟩) 128 (bv (hd4 epoch x.length (crcN x)))) (hcg : 128 ≤ cg) (hap : v.ownBlock ≠ some g) {k q : Nat} {y : List Nat} (hk : (wsN s epoch x)[k]? = some (q, y)) :
    ∃ b cb, (allD s gs g cg)[k * 2]? = some (.int .i64 (q : Int)) ∧ (allD s gs g cg)[k * 2 + 1]? = some (.slice (some ⟨b, 0, none⟩) 128 cb) ∧ 128 ≤ cb ∧ Rd W 1 (some ⟨b, 0, none⟩) 128 (bv y) ∧ v.ownBlock ≠ some b := by
  unfold wsN at hk
  unfold allD
  have hlen := h.len
  by_cases hlt : k < (x.length + 127) / 128
  · rw [List.getElem?_append_left (by simpa using hlt)] at hk
    simp [hlt] at hk
    obtain ⟨rfl, rfl⟩ := hk
    have hb : k < gs.length := by omega
    obtain ⟨h1, h2⟩ := wrD_get ((s : Int) + 1) gs k gs[k] (List.getElem?_eq_getElem hb)
    refine ⟨gs[k].1, gs[k].2, ?_, ?_, (h.pieces k _ (List.getElem?_eq_getElem hb)).2, (h.pieces k _ (List.getElem?_eq_getElem hb)).1, h.apart _ (List.getElem_mem hb)⟩
    · rw [List.getElem?_append_left (by rw [wrD_len]; omega), h1]
      simp only [Int.natCast_add]
      congr 2
    · rw [List.getElem?_append_left (by rw [wrD_len]; omega), h2]
  · rw [List.getElem?_append_right (by simpa using hlt)] at hk
    have hl := (List.getElem?_eq_some_iff.1 hk).1
    simp at hl
    have hl : k - (x.length + 127) / 128 = 0 := by omega
    simp only [List.length_map, List.length_range, hl] at hk
    simp at hk
    obtain ⟨rfl, rfl⟩ := hk
    have hk2 : k = gs.length := by omega
    refine ⟨g, cg, ?_, ?_, hcg, hh, hap⟩
    · rw [List.getElem?_append_right (by rw [wrD_len]; omega), wrD_len, show k * 2 - gs.length * 2 = 0 by omega]; rfl
    · rw [List.getElem?_append_right (by rw [wrD_len]; omega), wrD_len, show k * 2 + 1 - gs.length * 2 = 1 by omega]; rfl

/-- What holds when k writes are laid, and m bytes of the next. -/
structure RFI (w0 : World) (gi gv se : Nat) (T : List (Nat × List Nat)) (I : List Nat) (wr : World) : Prop where
  img : Blk wr gi 5 (bv I).toArray
  len : I.length = se * 128
  low : Below w0.heap.size w0 wr
  row : ∀ (j q : Nat) (y : List Nat), T[j]? = some (q, y) → ∃ b cb, wr.cell? ⟨gv, j * 2, none⟩ = some (.int .i64 (q : Int)) ∧ wr.cell? ⟨gv, j * 2 + 1, none⟩ = some (.slice (some ⟨b, 0, none⟩) 128 cb) ∧ 128 ≤ cb ∧ Rd wr 1 (some ⟨b, 0, none⟩) 128 (bv y) ∧ b ≠ gi ∧ gv ≠ gi
theorem RFI.start {w w3 w5 : World} {B gv s se M q cq cap5 : Nat} {gs : List (Nat × Nat)} {x : List Nat} {v : Value} {Z : Array Value} {o1 o2 : Obj} (hlo : RLO B (s : Int) x gs M v w3) (hM : M = (x.length + 127) / 128) (hh : Rd w3 1 (some ⟨q, 0, none⟩) 128 (bv (hd4 1 x.length (crcN x)))) (hcq : 128 ≤ cq) (hap : v.ownBlock ≠ some q)
    (hb3 : Below w.heap.size w w3) (hB : w.heap.size ≤ B) (hZ : Z.toList = zeros (se * 128)) (hfit : ∀ k, (imgN (se * 128) ((wsN s 1 x).take k)).length = se * 128) (hg : ((w3.alloc o1).alloc o2).grownBy w5 v.ownBlock)
    (hown : w5.ownsRow B 34 2 (.slice (some ⟨gv, 0, none⟩) (M + 1) cap5) (M + 1) (allD s gs q cq)) (hlt : gv < w5.heap.size) :
    RFI w w5.heap.size gv se (wsN s 1 x) (imgN (se * 128) ((wsN s 1 x).take 0)) (w5.alloc (.cells Z 5)) := by
  have hlow : Below w.heap.size w w5 := (bA (bA hb3 o1) o2).grown hg (bA (bA hb3 o1) o2).size (fun k e => Nat.le_trans hB (own_base hlo.row k e))
  refine ⟨?_, hfit 0, bA hlow _, fun j q' y hj => ?_⟩
  · have e : Z = (bv (imgN (se * 128) ((wsN s 1 x).take 0))).toArray := by
      rw [List.take_zero, ← Array.toArray_toList (xs := Z), hZ, zeros_bv]; rfl
    rw [← e]; exact Blk.new1 rfl _ _
  · obtain ⟨b, cb, h1, h2, h3, h4, h5⟩ := hlo.cells hM hh hcq hap hj
    have hc := hown.cells (g := gv) rfl
    have ea : ∀ m : Nat, (⟨gv, 0, none⟩ : Addr).add m = ⟨gv, m, none⟩ := fun m => by unfold Addr.add; split <;> simp_all
    have h6 := (h4.below (bA (bA (Below.refl _ _) o1) o2)).grown (by omega) (by omega) hg h5
    obtain ⟨ad, e7, h7⟩ := h6.lt (by omega) (by omega)
    cases e7
    simp only at h7
    have hb5 : Below w5.heap.size w5 (w5.alloc (.cells Z 5)) := bA (Below.refl _ _) _
    exact ⟨b, cb, bget hb5 (by rw [← ea]; exact hc _ _ h1), bget hb5 (by rw [← ea]; exact hc _ _ h2), h3, h6.below hb5, by omega, by omega⟩
theorem RFI.drew {w0 wr : World} {gi gv se : Nat} {T : List (Nat × List Nat)} {I : List Nat} (h : RFI w0 gi gv se T I wr) : RFI w0 gi gv se T I wr.drew := ⟨h.img, h.len, bD h.low, fun j q y hj => by
  obtain ⟨b, c, h1, h2, h3, h4, h5⟩ := h.row j q y hj
  exact ⟨b, c, h1, h2, h3, h4.below (bD (Below.refl _ _)), h5⟩⟩
theorem RFI.set {w0 wr : World} {gi gv se i b : Nat} {T : List (Nat × List Nat)} {I : List Nat} (h : RFI w0 gi gv se T I wr) (hgi : w0.heap.size ≤ gi) : RFI w0 gi gv se T (I.set i b) (wr.setCell ⟨gi, i, none⟩ (.int .u8 (b : Int))) := by
  refine ⟨?_, by rw [List.length_set]; exact h.len, bS h.low hgi _, fun j q y hj => ?_⟩
  · have e : (bv (I.set i b)).toArray = ((bv I).toArray).setIfInBounds i (.int .u8 (b : Int)) := by
      simp [bv, List.map_set]
    rw [e]
    exact h.img.set_ i _
  · obtain ⟨q1, c1, h1, h2, h3, h4, h5, h6⟩ := h.row j q y hj
    have hc : (wr.setCell ⟨gi, i, none⟩ (.int .u8 (b : Int))).heap[gv]? = wr.heap[gv]? := Below.heap_setCell _ _ _ _ h6
    exact ⟨q1, c1, (World.cell?_of_block hc).trans h1, (World.cell?_of_block hc).trans h2, h3, h4.set h5 _, h5, h6⟩
end Go.Proofs.YtnaapkoladiomaaGreatDoor.B
