/- The codec's writer: a list of levels. -/
import Derived.Test.YtnaapkoladiomaaGreatDoorWriter
import Derived.Test.YtnaapkoladiomaaGreatDoorSound
import Derived.Deep.Cut
import Derived.Deep.CutRange
namespace Go.Proofs.YtnaapkoladiomaaGreatDoor.B
open Go.RowKit

/-- A level's bytes. -/
def lvB (x : ByteArray × Int × Int) : List Nat := (grp x.1.size ++ sb x.1) ++ (grp (2 * x.2.1.toNat) ++ grp (2 * x.2.2.toNat))
def okLv (x : ByteArray × Int × Int) : Prop := x.1.size ≤ 1000 ∧ 0 ≤ x.2.1 ∧ x.2.1 < 4611686018427387904 ∧ 0 ≤ x.2.2 ∧ x.2.2 < 4611686018427387904
theorem lvB_len (x : ByteArray × Int × Int) (h : okLv x) : (lvB x).length ≤ 1030 := by
  have h1 := grp_len x.1.size
  have h2 := grp_len (2 * x.2.1.toNat)
  have h3 := grp_len (2 * x.2.2.toNat)
  have h4 := h.1
  simp [lvB]; omega
theorem lvBs_len (L : List (ByteArray × Int × Int)) (h : ∀ x ∈ L, okLv x) : (L.flatMap lvB).length ≤ L.length * 1030 := by
  induction L with
  | nil => simp
  | cons x r ih =>
    have h1 := lvB_len x (h x (by simp))
    have h2 := ih fun y hy => h y (by simp [hy])
    simp only [List.flatMap_cons, List.length_append, List.length_cons]
    omega

theorem Safe.new {base W : Nat} {v : Value} {l : List Nat} {w : World} (h : Wr base W v l w) (t : TypeId) (cs : Array Value) : Safe W v (w.alloc (.cells cs t)) w.heap.size t cs :=
  ⟨Blk.new w t cs, by have := h.blk.lt; omega, fun e => by have := own_lt h.own _ e.symm; omega⟩
theorem Safe.cell {W : Nat} {v : Value} {w : World} {b : Nat} {t : TypeId} {cs : Array Value} (h : Safe W v w b t cs) (i : Nat) : w.cell? ⟨b, i, none⟩ = cs[i]? := h.1.cell i
theorem Safe.below {W : Nat} {v : Value} {w w' : World} {b : Nat} {t : TypeId} {cs : Array Value} (h : Safe W v w b t cs) (hb : Below w.heap.size w w') : Safe W v w' b t cs := ⟨h.1.below hb, h.2⟩
theorem Wrote.alloc {base W : Nat} {v : Value} {l : List Nat} {w : World} {o : Obj} {e : Ending} {w' : World} (h : Wrote base W v l (w.alloc o) e w') : Wrote base W v l w e w' := by
  obtain ⟨rfl, v', h1, h2, h3⟩ := h
  refine ⟨rfl, v', h1, (Two.of_below (bA (Below.refl _ _) o)).trans (Next.refl _ _) h2, (Next.refl w v).trans h3 (bA (Below.refl w.heap.size w) o).size⟩

set_option maxRecDepth 100000 in
set_option maxHeartbeats 1600000 in
theorem levels1_any (base W BX a b : Nat) (s : ByteArray) (v : Value) (l : List Nat) (w : World) (h : Wr base W v l w) (hx : Safe W v w BX 99 #[.pointer (some ⟨W, 0, none⟩)])
    (hs : s.size ≤ 1000) (ha : a < 4611686018427387904) (hb : b < 4611686018427387904) (hl : l.length ≤ 549755813888) :
    Calls Tryz.prog 85 #[.agg #[.string s, .int .i64 (a : Int), .int .i64 (b : Int)], .pointer (some ⟨BX, 0, none⟩)] w (Wrote base W v (l ++ lvB (s, (a : Int), (b : Int))) w) := by
  have gs := grp_len s.size
  have ga := grp_len (2 * a)
  have H := hide (h.below (bA (Below.refl _ _) (.cells #[.string s, .int .i64 (a : Int), .int .i64 (b : Int)] 80)))
  have HN := hide (Safe.new h 80 #[.string s, .int .i64 (a : Int), .int .i64 (b : Int)])
  have HX := hide (hx.below (bA (Below.refl _ _) (.cells #[.string s, .int .i64 (a : Int), .int .i64 (b : Int)] 80)))
  have c0 : (w.alloc (.cells #[.string s, .int .i64 (a : Int), .int .i64 (b : Int)] 80)).cell? ⟨BX, 0, none⟩ = some (.pointer (some ⟨W, 0, none⟩)) := HX.out.cell 0
  clear h hx
  go_enter Tryz.func85, Tryz.ntmps85
  go_wp2_with fail
  refine (wtext_any base W s v l _ H.out (by omega) (by omega)).mono ?_
  rintro e w1 ⟨rfl, v1, h1, t1, n1⟩
  have H1 := hide h1
  have T1 := hide t1
  have N1 := hide n1
  have HN1 := hide (HN.out.step t1 n1)
  have HX1 := hide (HX.out.step t1 n1)
  have d0 : w1.cell? ⟨BX, 0, none⟩ = some (.pointer (some ⟨W, 0, none⟩)) := HX1.out.cell 0
  have d1 : w1.cell? ⟨w.heap.size, 1, none⟩ = some (.int .i64 (a : Int)) := HN1.out.cell 1
  clear h1 t1 n1 c0
  go_wp2_with fail
  refine (wint_any base W a v1 _ _ H1.out ha (by simp; omega)).mono ?_
  rintro e w2 ⟨rfl, v2, h2, t2, n2⟩
  have H2 := hide h2
  have T2 := hide (T1.out.trans N1.out t2)
  have N2 := hide (N1.out.trans n2 T1.out.size)
  have HN2 := hide (HN1.out.step t2 n2)
  have HX2 := hide (HX1.out.step t2 n2)
  have e0 : w2.cell? ⟨BX, 0, none⟩ = some (.pointer (some ⟨W, 0, none⟩)) := HX2.out.cell 0
  have e1 : w2.cell? ⟨w.heap.size, 2, none⟩ = some (.int .i64 (b : Int)) := HN2.out.cell 2
  clear h2 t2 n2 d0 d1
  go_wp2_with fail
  refine (wint_any base W b v2 _ _ H2.out hb (by simp; omega)).mono ?_
  rintro e w3 ⟨rfl, v3, h3, t3, n3⟩
  have H3 := hide h3
  have T3 := hide (T2.out.trans N2.out t3)
  have N3 := hide (N2.out.trans n3 T2.out.size)
  clear h3 t3 n3 e0 e1
  go_wp2_with fail
  go_end0
  refine Wrote.alloc (o := .cells #[.string s, .int .i64 (a : Int), .int .i64 (b : Int)] 80) ⟨rfl, v3, ?_, T3.out, N3.out⟩
  have := H3.out
  simpa [lvB, List.append_assoc] using this

/-- A slice that is read, whose cells no step of the writer turns. -/
structure RdS (W : Nat) (v : Value) (w : World) (size : Nat) (A : Option Addr) (n : Nat) (xs : List Value) : Prop where
  rd : Rd w size A n xs
  sep : ∀ ad, A = some ad → ad.block < w.heap.size ∧ ad.block ≠ W ∧ some ad.block ≠ v.ownBlock
theorem RdS.step {W : Nat} {v v' : Value} {w w' : World} {size n : Nat} {A : Option Addr} {xs : List Value} (h : RdS W v w size A n xs) (t : Two W v w w') (hn : Next w v v') : RdS W v' w' size A n xs :=
  ⟨h.rd.move (fun ad e => t.block _ (h.sep ad e).1 (h.sep ad e).2.1 (h.sep ad e).2.2), fun ad e => ⟨Nat.lt_of_lt_of_le (h.sep ad e).1 t.size, (h.sep ad e).2.1, hn.ne (h.sep ad e).1 (h.sep ad e).2.2⟩⟩
theorem RdS.below {W : Nat} {v : Value} {w w' : World} {size n : Nat} {A : Option Addr} {xs : List Value} (h : RdS W v w size A n xs) (hb : Below w.heap.size w w') : RdS W v w' size A n xs :=
  h.step (Two.of_below hb) (Next.refl _ _)
theorem takeSnoc {α : Type} (L : List α) (k : Nat) {x : α} (h : L[k]? = some x) : L.take (k + 1) = L.take k ++ [x] := by
  rw [List.take_add_one, h]; rfl

set_option maxRecDepth 100000 in
set_option maxHeartbeats 3200000 in
theorem putLevels_any (base W BX : Nat) (A : Option Addr) (n c : Nat) (L : List (ByteArray × Int × Int)) (v : Value) (l : List Nat) (w : World) (h : Wr base W v l w) (hx : Safe W v w BX 99 #[.pointer (some ⟨W, 0, none⟩)])
    (hr : RdS W v w 3 A n (lvC L)) (hL : L.length = n) (hok : ∀ x ∈ L, okLv x) (hn : n ≤ 1000000) (hl : l.length ≤ 274877906944) :
    Calls Tryz.prog 84 #[.pointer (some ⟨W, 0, none⟩), .slice A n c, .func (.func 85) #[] #[.pointer (some ⟨BX, 0, none⟩)]] w (Wrote base W v (l ++ (grp n ++ L.flatMap lvB)) w) := by
  obtain ⟨i0, hi0, hz0, hz1, hz2⟩ := info_parts info_u8
  have c0 : w.cell? ⟨W, 0, none⟩ = some v := h.blk.cell 0
  have f0 : w.frozen? ⟨W, 0, none⟩ = false := h.blk.frozen 0
  have H := hide h
  have HX := hide hx
  have HR := hide hr
  have HL := hide hL
  have HK := hide hok
  have hl2 := grp_len n
  have hw64 : IntKind.u64.wrap (n : Int) = (n : Int) := by simp [IntKind.wrap, IntKind.bits, IntKind.signed]; omega
  clear h hx hr hL hok
  go_enter Tryz.func84, Tryz.ntmps84
  go_wp2_with fail
  go_cut [] from 8 to 19 (fun wx => Wrote base W v (l ++ grp n) w (.returned (.tuple #[])) wx)
  case first =>
    go_region_law
      (first
        | (refine step_append_lies _ (by rfl) _ _ _ (by rfl) base 5 i0 _ 1 1 Tryz.underlying32 hi0 hz0 hz1 hz2 rfl (by omega) v l.length (bv l) (by rfl) HA.out ⟨g, 0, none⟩ (grp n).length c2 (bv (grp n)) (by rfl) (by simp) HC.out (bv_one _) (by omega) (by simp only [maxLen]; omega) (by omega) HS.out w2.heap.size rfl ?_; intro g' cap wx hown1 hgrow hat hlt'
           have cx : wx.cell? ⟨W, 0, none⟩ = some v := (HB.out.grown hgrow H.out.ne).cell 0
           have fx : wx.frozen? ⟨W, 0, none⟩ = false := (HB.out.grown hgrow H.out.ne).frozen 0)
        | (go_simp; go_at_call 86; refine (putUint_nil n _ (by omega)).mono ?_; rintro e w2 ⟨⟨g, c2, rfl, hown⟩, hb2⟩
           have c2' : w2.cell? ⟨W, 0, none⟩ = some v := bget hb2 c0
           have HB := hide (H.out.blk.below (bT (bD (Below.refl w.heap.size w)) hb2))
           have HA := hide (own_below H.out.own (bT (bD (Below.refl w.heap.size w)) hb2))
           have HC := hide (hown.cells (g := g) rfl)
           have HS := hide (Nat.le_trans H.out.base (bT (bD (Below.refl w.heap.size w)) hb2).size)))
    all_goals go_wp2_with fail
    all_goals go_meet
    all_goals exact H.out.laid (bT (bD (Below.refl w.heap.size w)) hb2) hown1 hgrow hat
  case rest =>
    obtain ⟨_, v1, h1, t1, n1⟩ := hcut
    have H1 := hide h1
    have T1 := hide t1
    have N1 := hide n1
    clear h1 t1 n1 c0 f0
    go_wp2_with fail
    go_loopg [22] n (fun gf i wr => ∃ (k : Nat) (vk : Value), n ≤ k + gf ∧ k ≤ n ∧ i = .int .i64 (k : Int) ∧ Wr base W vk (l ++ (grp n ++ (L.take k).flatMap lvB)) wr ∧ Two W v w wr ∧ Next w v vk)
    case atStart => exact ⟨0, v1, by omega, by omega, rfl, by simpa using H1.out, T1.out, N1.out⟩
    case round =>
      obtain ⟨k, vk, hg, hk, rfl, hw, ht, hn1⟩ := hrel
      by_cases hlt : k < n
      · obtain ⟨x, hs⟩ : ∃ x, L[k]? = some x := ⟨L[k]'(by rw [HL.out]; exact hlt), List.getElem?_eq_getElem _⟩
        have hox := HK.out x (List.mem_of_getElem? hs)
        obtain ⟨s, a, b⟩ := x
        obtain ⟨o1, o2, o3, o4, o5⟩ := hox
        simp only at o1 o2 o3 o4 o5
        obtain ⟨a', rfl⟩ := Int.eq_ofNat_of_zero_le o2
        obtain ⟨b', rfl⟩ := Int.eq_ofNat_of_zero_le o4
        obtain ⟨g1, g2, g3⟩ := lvC_get L k hs
        have HRk := hide (HR.out.step ht hn1)
        have HXk := hide (HX.out.step ht hn1)
        obtain ⟨ad, rfl, hc⟩ := HRk.out.rd.cells (by omega)
        have q1 := hc _ _ g1
        have q2 := hc _ _ g2
        have q3 := hc _ _ g3
        rw [add_next ad (k * 3) (by omega)] at q2 q3
        have ki0 : (0 : Int) ≤ (k : Int) := by omega
        have ki1 : (k : Int) < (n : Int) := by omega
        have hlen : (l ++ (grp n ++ (L.take k).flatMap lvB)).length ≤ 549755813888 := by
          have e1 := lvBs_len (L.take k) (fun y hy => HK.out y (List.mem_of_mem_take hy))
          have e2 : (L.take k).length ≤ 1000000 := by rw [List.length_take]; omega
          simp only [List.length_append]
          omega
        have HWk := hide hw
        have HT := hide ht
        have HN := hide hn1
        have HSx := hide hs
        clear hc g1 g2 g3 hs hw ht hn1 o2 o4
        go_wp2_with fail
        refine (levels1_any base W BX a' b' s vk _ _ (HWk.out.below (bA (Below.refl _ _) _)) (HXk.out.below (bA (Below.refl _ _) _)) o1 (by omega) (by omega) hlen).mono ?_
        rintro e w2 hw2
        obtain ⟨rfl, v2, h2, t2, n2⟩ := hw2.alloc
        have H2 := hide h2
        have T2 := hide (HT.out.trans HN.out t2)
        have N2 := hide (HN.out.trans n2 HT.out.size)
        clear h2 t2 n2 hw2
        go_wp2_with fail
        go_roundg (gk - 1)
        case measure => omega
        case rel =>
          refine ⟨k + 1, v2, by omega, by omega, by go_num, ?_, T2.out, N2.out⟩
          rw [takeSnoc L k HSx.out, List.flatMap_append]
          have := H2.out
          simpa [List.append_assoc] using this
      · obtain rfl : k = n := by omega
        have HW := hide hw
        have HT := hide ht
        have HN := hide hn1
        clear hw ht hn1
        go_wp2_with fail
        go_end0
        refine ⟨rfl, vk, ?_, HT.out, HN.out⟩
        have := HW.out
        rwa [List.take_of_length_le (by rw [HL.out]; exact Nat.le_refl _)] at this

set_option maxRecDepth 100000 in
theorem levels_any (base W : Nat) (A : Option Addr) (n c : Nat) (L : List (ByteArray × Int × Int)) (v : Value) (l : List Nat) (w : World) (h : Wr base W v l w)
    (hr : RdS W v w 3 A n (lvC L)) (hL : L.length = n) (hok : ∀ x ∈ L, okLv x) (hn : n ≤ 1000000) (hl : l.length ≤ 274877906944) :
    Calls Tryz.prog 51 #[.pointer (some ⟨W, 0, none⟩), .slice A n c] w (Wrote base W v (l ++ (grp n ++ L.flatMap lvB)) w) := by
  have H := hide (h.below (bA (Below.refl _ _) (.cells #[.pointer (some ⟨W, 0, none⟩)] 99)))
  have HN := hide (Safe.new h 99 #[.pointer (some ⟨W, 0, none⟩)])
  have HR := hide (hr.below (bA (Below.refl _ _) (.cells #[.pointer (some ⟨W, 0, none⟩)] 99)))
  clear h hr
  go_enter Tryz.func51, Tryz.ntmps51
  go_wp2_with fail
  refine (putLevels_any base W w.heap.size A n c L v l _ H.out HN.out HR.out hL hok hn hl).mono ?_
  rintro e w1 hw1
  obtain ⟨rfl, hw2⟩ := hw1.alloc
  have HW := hide hw2
  clear hw1 hw2
  go_wp2_with fail
  go_end0
  exact ⟨rfl, HW.out⟩
end Go.Proofs.YtnaapkoladiomaaGreatDoor.B
