/- codec.PutState of a state without holds and remembered requests. -/
import Derived.Test.YtnaapkoladiomaaGreatDoorLevels
namespace Go.Proofs.YtnaapkoladiomaaGreatDoor.B
open Go.RowKit

set_option maxRecDepth 100000 in
set_option maxHeartbeats 1600000 in
theorem putNoHeld (base W : Nat) (fv : Value) (v : Value) (l : List Nat) (w : World) (h : Wr base W v l w) (hl : l.length ≤ 549755813888) :
    Calls Tryz.prog 52 #[.pointer (some ⟨W, 0, none⟩), .slice none 0 0, fv] w (Wrote base W v (l ++ [0]) w) := by
  obtain ⟨i0, hi0, hz0, hz1, hz2⟩ := info_parts info_u8
  have c0 : w.cell? ⟨W, 0, none⟩ = some v := h.blk.cell 0
  have f0 : w.frozen? ⟨W, 0, none⟩ = false := h.blk.frozen 0
  have H := hide h
  have hp := hide (fun w => putUint_nil 0 w (by omega))
  have e0 : grp 0 = [0] := rfl
  rw [e0] at hp
  clear h e0
  go_enter Tryz.func52, Tryz.ntmps52
  go_wp2_with fail
  go_cut [] from 8 to 19 (fun wx => Wrote base W v (l ++ [0]) w (.returned (.tuple #[])) wx)
  case first =>
    go_region_law
      (first
        | (refine step_append_lies _ (by rfl) _ _ _ (by rfl) base 5 i0 _ 1 1 Tryz.underlying32 hi0 hz0 hz1 hz2 rfl (by omega) v l.length (bv l) (by rfl) HA.out ⟨g, 0, none⟩ 1 c2 (bv [0]) (by rfl) (by simp) HC.out (bv_one _) (by omega) (by simp only [maxLen]; omega) (by omega) HS.out w2.heap.size rfl ?_; intro g' cap wx hown1 hgrow hat hlt'
           have cx : wx.cell? ⟨W, 0, none⟩ = some v := (HB.out.grown hgrow H.out.ne).cell 0
           have fx : wx.frozen? ⟨W, 0, none⟩ = false := (HB.out.grown hgrow H.out.ne).frozen 0)
        | (go_simp; go_at_call 86; refine (hp.out _).mono ?_; rintro e w2 ⟨⟨g, c2, rfl, hown⟩, hb2⟩
           have c2' : w2.cell? ⟨W, 0, none⟩ = some v := bget hb2 c0
           have HB := hide (H.out.blk.below (bT (bD (Below.refl w.heap.size w)) hb2))
           have HA := hide (own_below H.out.own (bT (bD (Below.refl w.heap.size w)) hb2))
           have HC := hide (hown.cells (g := g) rfl)
           have HS := hide (Nat.le_trans H.out.base (bT (bD (Below.refl w.heap.size w)) hb2).size)))
    all_goals go_wp2_with fail
    all_goals go_meet
    all_goals exact H.out.laid (x := [0]) (bT (bD (Below.refl w.heap.size w)) hb2) hown1 hgrow hat
  case rest =>
    obtain ⟨_, v1, h1, t1, n1⟩ := hcut
    have H1 := hide h1
    have T1 := hide t1
    have N1 := hide n1
    clear h1 t1 n1 c0 f0
    obtain ⟨V, rfl⟩ : ∃ V, V = wc := ⟨_, rfl⟩
    go_wp2_with fail
    go_loopg [22] 0 (fun gf i wr => i = .int .i64 0 ∧ V = wr)
    case atStart => exact ⟨rfl, rfl⟩
    case round =>
      obtain ⟨rfl, rfl⟩ := hrel
      go_wp2_with fail
      go_end0
      exact ⟨rfl, v1, H1.out, T1.out, N1.out⟩

set_option maxRecDepth 100000 in
set_option maxHeartbeats 1600000 in
theorem putNoDone (base W : Nat) (fv : Value) (v : Value) (l : List Nat) (w : World) (h : Wr base W v l w) (hl : l.length ≤ 549755813888) :
    Calls Tryz.prog 56 #[.pointer (some ⟨W, 0, none⟩), .slice none 0 0, fv] w (Wrote base W v (l ++ [0]) w) := by
  obtain ⟨i0, hi0, hz0, hz1, hz2⟩ := info_parts info_u8
  have c0 : w.cell? ⟨W, 0, none⟩ = some v := h.blk.cell 0
  have f0 : w.frozen? ⟨W, 0, none⟩ = false := h.blk.frozen 0
  have H := hide h
  have hp := hide (fun w => putUint_nil 0 w (by omega))
  have e0 : grp 0 = [0] := rfl
  rw [e0] at hp
  clear h e0
  go_enter Tryz.func56, Tryz.ntmps56
  go_wp2_with fail
  go_cut [] from 8 to 19 (fun wx => Wrote base W v (l ++ [0]) w (.returned (.tuple #[])) wx)
  case first =>
    go_region_law
      (first
        | (refine step_append_lies _ (by rfl) _ _ _ (by rfl) base 5 i0 _ 1 1 Tryz.underlying32 hi0 hz0 hz1 hz2 rfl (by omega) v l.length (bv l) (by rfl) HA.out ⟨g, 0, none⟩ 1 c2 (bv [0]) (by rfl) (by simp) HC.out (bv_one _) (by omega) (by simp only [maxLen]; omega) (by omega) HS.out w2.heap.size rfl ?_; intro g' cap wx hown1 hgrow hat hlt'
           have cx : wx.cell? ⟨W, 0, none⟩ = some v := (HB.out.grown hgrow H.out.ne).cell 0
           have fx : wx.frozen? ⟨W, 0, none⟩ = false := (HB.out.grown hgrow H.out.ne).frozen 0)
        | (go_simp; go_at_call 86; refine (hp.out _).mono ?_; rintro e w2 ⟨⟨g, c2, rfl, hown⟩, hb2⟩
           have c2' : w2.cell? ⟨W, 0, none⟩ = some v := bget hb2 c0
           have HB := hide (H.out.blk.below (bT (bD (Below.refl w.heap.size w)) hb2))
           have HA := hide (own_below H.out.own (bT (bD (Below.refl w.heap.size w)) hb2))
           have HC := hide (hown.cells (g := g) rfl)
           have HS := hide (Nat.le_trans H.out.base (bT (bD (Below.refl w.heap.size w)) hb2).size)))
    all_goals go_wp2_with fail
    all_goals go_meet
    all_goals exact H.out.laid (x := [0]) (bT (bD (Below.refl w.heap.size w)) hb2) hown1 hgrow hat
  case rest =>
    obtain ⟨_, v1, h1, t1, n1⟩ := hcut
    have H1 := hide h1
    have T1 := hide t1
    have N1 := hide n1
    clear h1 t1 n1 c0 f0
    obtain ⟨V, rfl⟩ : ∃ V, V = wc := ⟨_, rfl⟩
    go_wp2_with fail
    go_loopg [22] 0 (fun gf i wr => i = .int .i64 0 ∧ V = wr)
    case atStart => exact ⟨rfl, rfl⟩
    case round =>
      obtain ⟨rfl, rfl⟩ := hrel
      go_wp2_with fail
      go_end0
      exact ⟨rfl, v1, H1.out, T1.out, N1.out⟩

/-- The bytes of a state without holds and remembered requests, behind the key. -/
def stB (room lsn now : Nat) (L : List (ByteArray × Int × Int)) : List Nat :=
  grp (2 * room) ++ (grp (2 * lsn) ++ (grp (2 * now) ++ ((grp L.length ++ L.flatMap lvB) ++ ([0] ++ [0]))))

set_option maxRecDepth 100000 in
set_option maxHeartbeats 3200000 in
theorem putState1_any (base W BS room lsn now : Nat) (A : Option Addr) (n c : Nat) (L : List (ByteArray × Int × Int)) (v : Value) (l : List Nat) (w : World) (h : Wr base W v l w)
    (hS : Safe W v w BS 29 (stC (room : Int) (lsn : Int) (now : Int) A n c)) (hr : RdS W v w 3 A n (lvC L)) (hL : L.length = n) (hok : ∀ x ∈ L, okLv x) (hn : n ≤ 1000000) (hl : l.length ≤ 1000)
    (h1 : room < 4611686018427387904) (h2 : lsn < 4611686018427387904) (h3 : now < 4611686018427387904) :
    Calls Tryz.prog 49 #[.pointer (some ⟨W, 0, none⟩), .pointer (some ⟨BS, 0, none⟩)] w (Wrote base W v (l ++ stB room lsn now L) w) := by
  have b1 := grp_len (2 * room)
  have b2 := grp_len (2 * lsn)
  have b3 := grp_len (2 * now)
  have b4 := grp_len n
  have b5 := lvBs_len L hok
  rw [hL] at b5
  have HL := hide hL
  have HK := hide hok
  have H := hide (h.below (bA (Below.refl _ _) (.cells #[.pointer (some ⟨W, 0, none⟩)] 99)))
  have HX := hide (Safe.new h 99 #[.pointer (some ⟨W, 0, none⟩)])
  have HS := hide (hS.below (bA (Below.refl _ _) (.cells #[.pointer (some ⟨W, 0, none⟩)] 99)))
  have HR := hide (hr.below (bA (Below.refl _ _) (.cells #[.pointer (some ⟨W, 0, none⟩)] 99)))
  have c0 : (w.alloc (.cells #[.pointer (some ⟨W, 0, none⟩)] 99)).cell? ⟨BS, 0, none⟩ = some (.int .i64 (room : Int)) := HS.out.cell 0
  clear h hS hr hL hok
  go_enter Tryz.func49, Tryz.ntmps49
  go_wp2_with fail
  refine (wint_any base W room v _ _ H.out h1 (by omega)).mono ?_
  rintro e w1 ⟨rfl, v1, g1, t1, n1⟩
  have H1 := hide g1
  have T1 := hide t1
  have N1 := hide n1
  have HX1 := hide (HX.out.step t1 n1)
  have HS1 := hide (HS.out.step t1 n1)
  have HR1 := hide (HR.out.step t1 n1)
  have x1 : w1.cell? ⟨w.heap.size, 0, none⟩ = some (.pointer (some ⟨W, 0, none⟩)) := HX1.out.cell 0
  have c1 : w1.cell? ⟨BS, 1, none⟩ = some (.int .i64 (lsn : Int)) := HS1.out.cell 1
  clear g1 t1 n1 c0 HX HS HR H
  go_wp2_with fail
  refine (wint_any base W lsn v1 _ _ H1.out h2 (by simp [-List.length_flatMap]; omega)).mono ?_
  rintro e w2 ⟨rfl, v2, g2, t2, n2⟩
  have H2 := hide g2
  have T2 := hide (T1.out.trans N1.out t2)
  have N2 := hide (N1.out.trans n2 T1.out.size)
  have HX2 := hide (HX1.out.step t2 n2)
  have HS2 := hide (HS1.out.step t2 n2)
  have HR2 := hide (HR1.out.step t2 n2)
  have x2 : w2.cell? ⟨w.heap.size, 0, none⟩ = some (.pointer (some ⟨W, 0, none⟩)) := HX2.out.cell 0
  have c2 : w2.cell? ⟨BS, 2, none⟩ = some (.int .i64 (now : Int)) := HS2.out.cell 2
  clear g2 t2 n2 x1 c1 HX1 HS1 HR1 H1
  go_wp2_with fail
  refine (wint_any base W now v2 _ _ H2.out h3 (by simp [-List.length_flatMap]; omega)).mono ?_
  rintro e w3 ⟨rfl, v3, g3, t3, n3⟩
  have H3 := hide g3
  have T3 := hide (T2.out.trans N2.out t3)
  have N3 := hide (N2.out.trans n3 T2.out.size)
  have HX3 := hide (HX2.out.step t3 n3)
  have HS3 := hide (HS2.out.step t3 n3)
  have HR3 := hide (HR2.out.step t3 n3)
  have x3 : w3.cell? ⟨w.heap.size, 0, none⟩ = some (.pointer (some ⟨W, 0, none⟩)) := HX3.out.cell 0
  have c3 : w3.cell? ⟨BS, 3, none⟩ = some (.slice A n c) := HS3.out.cell 3
  clear g3 t3 n3 x2 c2 HX2 HS2 HR2 H2
  go_wp2_with fail
  refine (levels_any base W A n c L v3 _ _ H3.out HR3.out HL.out HK.out hn (by simp [-List.length_flatMap]; omega)).mono ?_
  rintro e w4 ⟨rfl, v4, g4, t4, n4⟩
  have H4 := hide g4
  have T4 := hide (T3.out.trans N3.out t4)
  have N4 := hide (N3.out.trans n4 T3.out.size)
  have HX4 := hide (HX3.out.step t4 n4)
  have HS4 := hide (HS3.out.step t4 n4)
  have x4 : w4.cell? ⟨w.heap.size, 0, none⟩ = some (.pointer (some ⟨W, 0, none⟩)) := HX4.out.cell 0
  have c4 : w4.cell? ⟨BS, 4, none⟩ = some (.slice none 0 0) := HS4.out.cell 4
  clear g4 t4 n4 x3 c3 HX3 HS3 HR3 H3
  go_wp2_with fail
  refine (putNoHeld base W _ v4 _ _ H4.out (by simp [-List.length_flatMap]; omega)).mono ?_
  rintro e w5 ⟨rfl, v5, g5, t5, n5⟩
  have H5 := hide g5
  have T5 := hide (T4.out.trans N4.out t5)
  have N5 := hide (N4.out.trans n5 T4.out.size)
  have HX5 := hide (HX4.out.step t5 n5)
  have HS5 := hide (HS4.out.step t5 n5)
  have x5 : w5.cell? ⟨w.heap.size, 0, none⟩ = some (.pointer (some ⟨W, 0, none⟩)) := HX5.out.cell 0
  have c5 : w5.cell? ⟨BS, 5, none⟩ = some (.slice none 0 0) := HS5.out.cell 5
  clear g5 t5 n5 x4 c4 HX4 HS4 H4
  go_wp2_with fail
  refine (putNoDone base W _ v5 _ _ H5.out (by simp [-List.length_flatMap]; omega)).mono ?_
  rintro e w6 ⟨rfl, v6, g6, t6, n6⟩
  have H6 := hide g6
  have T6 := hide (T5.out.trans N5.out t6)
  have N6 := hide (N5.out.trans n6 T5.out.size)
  clear g6 t6 n6 x5 c5
  go_wp2_with fail
  go_end0
  refine Wrote.alloc (o := .cells #[.pointer (some ⟨W, 0, none⟩)] 99) ⟨rfl, v6, ?_, T6.out, N6.out⟩
  have := H6.out
  simpa [stB, List.append_assoc, HL.out] using this

/-- What the codec hands back: bytes of its own. -/
def Coded (B : Nat) (x : List Nat) (w : World) (e : Ending) (w' : World) : Prop :=
  (∃ g cap, e = .returned (.tuple #[.slice (some ⟨g, 0, none⟩) x.length cap, .int .i64 0]) ∧ w'.ownsRow B 5 1 (.slice (some ⟨g, 0, none⟩) x.length cap) x.length (bv x)) ∧ Below B w w'

set_option maxRecDepth 100000 in
set_option maxHeartbeats 3200000 in
theorem putSt_any (BS room lsn now : Nat) (A : Option Addr) (n c : Nat) (L : List (ByteArray × Int × Int)) (w : World) (hS : Blk w BS 29 (stC (room : Int) (lsn : Int) (now : Int) A n c)) (hr : Rd w 3 A n (lvC L)) (hL : L.length = n) (hok : ∀ x ∈ L, okLv x) (hn : n ≤ 1000000)
    (h1 : room < 4611686018427387904) (h2 : lsn < 4611686018427387904) (h3 : now < 4611686018427387904) (hA : ∀ ad, A = some ad → ad.block < w.heap.size) (hm : (84 :: stB room lsn now L).length ≤ 131072) :
    Calls Tryz.prog 48 #[.int .u8 84, .int .i64 131072, .func (.func 49) #[] #[.pointer (some ⟨BS, 0, none⟩)]] w (Coded w.heap.size (84 :: stB room lsn now L) w) := by
  obtain ⟨x, hx⟩ : ∃ x, x = 84 :: stB room lsn now L := ⟨_, rfl⟩
  have hx1 : 1 ≤ x.length := by rw [hx]; simp
  rw [← hx] at hm ⊢
  have HXE := hide hx
  clear hx
  have HLt := hide hS.lt
  have H0 := hide (show Wr w.heap.size (w.heap.size + 1) (.slice (some ⟨w.heap.size, 0, none⟩) 1 1) [84] ((w.alloc (.cells #[.int .u8 84] 5)).alloc (.cells #[.slice (some ⟨w.heap.size, 0, none⟩) 1 1] 132)) from
    ⟨Blk.new1 (by simp) _ _, (World.ownsRow_lit w #[.int .u8 84] 1 (Nat.le_refl _) (by simp [maxLen]) (by simp)).alloc _, by simp [Value.ownBlock], by simp; omega⟩)
  have HS := hide (show Safe (w.heap.size + 1) (.slice (some ⟨w.heap.size, 0, none⟩) 1 1) ((w.alloc (.cells #[.int .u8 84] 5)).alloc (.cells #[.slice (some ⟨w.heap.size, 0, none⟩) 1 1] 132)) BS 29 (stC (room : Int) (lsn : Int) (now : Int) A n c) from
    ⟨(hS.alloc _).alloc _, by have := HLt.out; omega, by have := HLt.out; simp [Value.ownBlock]; omega⟩)
  have HR := hide (show RdS (w.heap.size + 1) (.slice (some ⟨w.heap.size, 0, none⟩) 1 1) ((w.alloc (.cells #[.int .u8 84] 5)).alloc (.cells #[.slice (some ⟨w.heap.size, 0, none⟩) 1 1] 132)) 3 A n (lvC L) from
    ⟨hr.below (bA (bA (Below.refl _ _) _) _), fun ad e => ⟨by have := hA ad e; simp; omega, by have := hA ad e; omega, by have := hA ad e; simp [Value.ownBlock]; omega⟩⟩)
  have HB := hide (bA (bA (Below.refl w.heap.size w) (.cells #[.int .u8 84] 5)) (.cells #[.slice (some ⟨w.heap.size, 0, none⟩) 1 1] 132))
  have HL := hide hL
  have HK := hide hok
  clear hS hr hL hok hA
  go_enter Tryz.func48, Tryz.ntmps48
  go_wp2_with fail
  refine (putState1_any w.heap.size (w.heap.size + 1) BS room lsn now A n c L _ [84] _ H0.out HS.out HR.out HL.out HK.out hn (by simp) h1 h2 h3).mono ?_
  rintro e w3 ⟨rfl, v3, g3, t3, n3⟩
  rw [show [84] ++ stB room lsn now L = x from HXE.out.symm] at g3
  obtain ⟨g, cap, rfl⟩ := own_form g3.own hx1
  have d0 : w3.cell? ⟨w.heap.size + 1, 0, none⟩ = some (.slice (some ⟨g, 0, none⟩) x.length cap) := g3.blk.cell 0
  have k1 : (x.length : Int) ≤ 131072 := by omega
  have HBz := hide (show Below w.heap.size w w3 from ⟨t3.os.trans HB.out.os, t3.tape.trans HB.out.tape, t3.output.trans HB.out.output, Nat.le_trans HB.out.size t3.size, fun b hb => (t3.block b (Nat.lt_of_lt_of_le hb HB.out.size) (by omega) (by simp [Value.ownBlock]; omega)).trans (HB.out.block b hb)⟩)
  have HO := hide g3.own
  clear g3 t3 n3
  go_wp2_with fail
  go_ret2
  exact ⟨⟨g, cap, rfl, HO.out⟩, HBz.out⟩

set_option maxRecDepth 100000 in
theorem putState_any (room lsn now : Nat) (A : Option Addr) (n c : Nat) (L : List (ByteArray × Int × Int)) (w : World) (hr : Rd w 3 A n (lvC L)) (hL : L.length = n) (hok : ∀ x ∈ L, okLv x) (hn : n ≤ 1000000)
    (h1 : room < 4611686018427387904) (h2 : lsn < 4611686018427387904) (h3 : now < 4611686018427387904) (hA : ∀ ad, A = some ad → ad.block < w.heap.size) (hm : (84 :: stB room lsn now L).length ≤ 131072) :
    Calls Tryz.prog 23 #[stV (room : Int) (lsn : Int) (now : Int) A n c] w (Coded w.heap.size (84 :: stB room lsn now L) w) := by
  have HB := hide (bA (Below.refl w.heap.size w) (.cells (stC (room : Int) (lsn : Int) (now : Int) A n c) 29))
  have HC := hide (putSt_any w.heap.size room lsn now A n c L (w.alloc (.cells (stC (room : Int) (lsn : Int) (now : Int) A n c) 29)) (Blk.new w _ _) (hr.below HB.out) hL hok hn h1 h2 h3 (fun ad e => Nat.lt_of_lt_of_le (hA ad e) HB.out.size) hm)
  obtain ⟨x, hx⟩ : ∃ x, x = 84 :: stB room lsn now L := ⟨_, rfl⟩
  rw [← hx] at HC ⊢
  clear hr hL hok hA hm hx
  go_enter Tryz.func23, Tryz.ntmps23
  go_wp2_with fail
  refine HC.out.mono ?_
  rintro e w1 ⟨⟨g, cap, rfl, hown⟩, hb⟩
  have HO := hide (own_low hown HB.out.size)
  have HBz := hide (bT HB.out hb)
  clear hown hb
  go_wp2_with fail
  go_ret2
  exact ⟨⟨g, cap, rfl, HO.out⟩, HBz.out⟩
end Go.Proofs.YtnaapkoladiomaaGreatDoor.B
