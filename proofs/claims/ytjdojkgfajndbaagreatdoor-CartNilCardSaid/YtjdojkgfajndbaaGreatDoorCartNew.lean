/- cart.New of a new ledger's state. -/
import Derived.Test.YtjdojkgfajndbaaGreatDoorCheck
import Derived.Test.YtjdojkgfajndbaaGreatDoorMemOf
import Derived.Test.YtjdojkgfajndbaaGreatDoorView
import Derived.Deep.RegionLaw
namespace Go.Proofs.YtjdojkgfajndbaaGreatDoor.B
open Go.RowKit

theorem cartNew_nil (A A1 : Option Addr) (n c n1 c1 : Nat) (st hd se sl room lsn now life : Int) (w : World) :
    Calls Tryz.prog 19 #[.pointer none, cfgV A n c st hd se sl, stV room lsn now A1 n1 c1, .int .i64 life] w fun e w' => e = .returned (.tuple #[.pointer none, .int .i64 2]) ∧ Below w.heap.size w w' := by
  go_enter Tryz.func19, Tryz.ntmps19
  go_wp2_with fail
  go_ret2
  exact ⟨rfl, bA (bA (Below.refl _ _) _) _⟩

theorem info_handler : (Tryz.prog.info? 61).map (fun i => (i.zero, i.size, i.bytes)) = some (some (.pointer none), 1, 8) := by kernel_rfl
theorem info_int : (Tryz.prog.info? 3).map (fun i => (i.zero, i.size, i.bytes)) = some (some (.int .i64 0), 1, 8) := by kernel_rfl

set_option maxRecDepth 100000 in
set_option maxHeartbeats 6400000 in
theorem cartNew_any (gd nd base : Nat) (A A1 : Option Addr) (n c c1 st hd : Nat) (ss : List ByteArray) (sl life : Int) (w : World) (hD : DiskAt w gd nd base) (hnd : nd ≤ 4096) (hl : ss.length = n) (hn : n ≤ 512) (hn1 : 1 ≤ n)
    (hE : emptyE ss st hd (nd : Int) sl = 0) (hst : 1 ≤ st ∧ st ≤ 64) (hhd : 1 ≤ hd ∧ hd ≤ 16) (hsl : 2 ≤ sl ∧ sl ≤ 1024) (h2 : 2 * sl + 1 ≤ (nd : Int)) (hlife : 1 ≤ life ∧ life < 1099511627776)
    (hok : ss.all (okText · 40) = true) (hri : rise ss = true) (hwt : (wt0 ss : Int) ≤ roomOf sl) (hr : Rd w 1 A n (strs ss)) (hr3 : Rd w 3 A1 n (lvCells ss)) :
    Calls Tryz.prog 19 #[.pointer (some ⟨gd, 0, none⟩), cfgV A n c st hd (nd : Int) sl, stV (roomOf sl) 0 0 A1 n c1, .int .i64 life] w fun e w' => (∃ g q, e = .returned (.tuple #[.pointer (some ⟨g, 0, none⟩), .int .i64 0]) ∧ LogAt w' q 0 ((nd : Int) - 2 * sl) ∧ g < w'.heap.size ∧
      w'.cell? ⟨g, 20, none⟩ = some (.int .i64 life) ∧ w'.cell? ⟨g, 17, none⟩ = some (.pointer (some ⟨q, 0, none⟩)) ∧ w'.cell? ⟨g, 19, none⟩ = some (.int .i64 0) ∧ w'.cell? ⟨g, 21, none⟩ = some (.int .i64 (-1)) ∧ w'.cell? ⟨g, 13, none⟩ = some (.int .i64 (wt0 ss : Nat)) ∧ w'.cell? ⟨g, 22, none⟩ = some (.int .i64 (wt0 ss : Nat))) ∧ Below w.heap.size w w' := by
  have hmm := @run_makeMap Tryz.prog
  have HL := hide hl
  have HE := hide hE
  have HO := hide hok
  have HRi := hide hri
  have HR := hide hr
  have HR3 := hide hr3
  have HD := hide hD
  have HZ := hide (show ∀ s ∈ ss, s.size ≤ 40 from fun s hs => size_of_ok (List.all_eq_true.1 hok s hs))
  have HRo := hide (show roomOf sl = (sl - 1) * 128 by simp [roomOf]; omega)
  have HW := hide hwt
  obtain ⟨st1, st2⟩ := hst
  obtain ⟨hd1, hd2⟩ := hhd
  obtain ⟨sl1, sl2⟩ := hsl
  obtain ⟨li1, li2⟩ := hlife
  have hx0 : 0 ≤ roomOf sl ∧ roomOf sl ≤ 131072 := by rw [HRo.out]; omega
  have HX := hide hx0
  clear hl hE hok hri hr hr3 hD hwt hx0
  go_enter Tryz.func19, Tryz.ntmps19
  go_wp2_with fail
  refine (check_any A n c ss st hd (nd : Int) sl _ HL.out (by omega) (HR.out.below (bA (bA (Below.refl _ _) _) _))).mono ?_
  rintro e w1 ⟨rfl, hb1⟩
  rw [HE.out]
  have HC := hide (Blk.below (g := w.heap.size) (t := 51) (cs := cfgC A n c st hd (nd : Int) sl) ((Blk.new1 rfl _ _).alloc _) hb1)
  have HS := hide (Blk.below (g := w.heap.size + 1) (t := 47) (cs := stC (roomOf sl) 0 0 A1 n c1) (Blk.new1 (by simp) _ _) hb1)
  have HB1 := hide (bT (bA (bA (Below.refl w.heap.size w) _) _) hb1)
  have hD1 : DiskAt w1 gd nd base := by
    obtain ⟨a1, a2, a3, a4, hB, hbs⟩ := HD.out
    exact ⟨a1, a2, a3, a4, hB.below HB1.out, hbs⟩
  have hD1d : DiskAt w1.drew gd nd base := hD1
  have c0 : w1.cell? ⟨w.heap.size, 0, none⟩ = some (.slice A n c) := HC.out.cell 0
  have c1' : w1.cell? ⟨w.heap.size, 1, none⟩ = some (.int .i64 (st : Int)) := HC.out.cell 1
  have c2 : w1.cell? ⟨w.heap.size, 2, none⟩ = some (.int .i64 (hd : Int)) := HC.out.cell 2
  have c3 : w1.cell? ⟨w.heap.size, 3, none⟩ = some (.int .i64 (nd : Int)) := HC.out.cell 3
  have c4 : w1.cell? ⟨w.heap.size, 4, none⟩ = some (.int .i64 sl) := HC.out.cell 4
  have s0 : w1.cell? ⟨w.heap.size + 1, 0, none⟩ = some (.int .i64 (roomOf sl)) := HS.out.cell 0
  have s1 : w1.cell? ⟨w.heap.size + 1, 1, none⟩ = some (.int .i64 0) := HS.out.cell 1
  have s2 : w1.cell? ⟨w.heap.size + 1, 2, none⟩ = some (.int .i64 0) := HS.out.cell 2
  have s3 : w1.cell? ⟨w.heap.size + 1, 3, none⟩ = some (.slice A1 n c1) := HS.out.cell 3
  have s4 : w1.cell? ⟨w.heap.size + 1, 4, none⟩ = some (.slice none 0 0) := HS.out.cell 4
  have s5 : w1.cell? ⟨w.heap.size + 1, 5, none⟩ = some (.slice none 0 0) := HS.out.cell 5
  clear hb1
  go_wp2_with fail
  have g1 : decide (life < 1) = false := by simp; omega
  have g2 : decide (1099511627776 ≤ life) = false := by simp; omega
  go_region_held3 (fun w' => w'.cell? ⟨w.heap.size, 3, none⟩ = some (.int .i64 (nd : Int))) (go_keep)
    (first
      | (go_at_call 34; refine (sectors_any gd nd base _ hD1d hnd).mono ?_; rintro e w2 ⟨rfl, rfl⟩))
  go_wp2_with fail
  have hk : Below w.heap.size w w1.drew := bD HB1.out
  have HB2 := hide hk
  go_region_held3 (fun w' => w'.cell? ⟨w.heap.size, 0, none⟩ = some (.slice A n c) ∧ w'.cell? ⟨w.heap.size, 1, none⟩ = some (.int .i64 (st : Int)) ∧ w'.cell? ⟨w.heap.size, 2, none⟩ = some (.int .i64 (hd : Int)) ∧ w'.cell? ⟨w.heap.size, 3, none⟩ = some (.int .i64 (nd : Int)) ∧ w'.cell? ⟨w.heap.size, 4, none⟩ = some (.int .i64 sl) ∧
      w'.cell? ⟨w.heap.size + 1, 0, none⟩ = some (.int .i64 (roomOf sl)) ∧ w'.cell? ⟨w.heap.size + 1, 1, none⟩ = some (.int .i64 0) ∧ w'.cell? ⟨w.heap.size + 1, 2, none⟩ = some (.int .i64 0) ∧ w'.cell? ⟨w.heap.size + 1, 3, none⟩ = some (.slice A1 n c1) ∧ w'.cell? ⟨w.heap.size + 1, 4, none⟩ = some (.slice none 0 0) ∧ w'.cell? ⟨w.heap.size + 1, 5, none⟩ = some (.slice none 0 0) ∧ Below w.heap.size w w')
    (first
      | (go_split_ands; refine ⟨bget (by assumption) (by assumption), bget (by assumption) (by assumption), bget (by assumption) (by assumption), bget (by assumption) (by assumption), bget (by assumption) (by assumption), bget (by assumption) (by assumption), bget (by assumption) (by assumption), bget (by assumption) (by assumption), bget (by assumption) (by assumption), bget (by assumption) (by assumption), bget (by assumption) (by assumption), bT (by assumption) (by assumption)⟩)
      | (refine ⟨by go_keep, by go_keep, by go_keep, by go_keep, by go_keep, by go_keep, by go_keep, by go_keep, by go_keep, by go_keep, by go_keep, bD (bD HB1.out)⟩)
      | (go_split_ands; refine ⟨by go_keep, by go_keep, by go_keep, by go_keep, by go_keep, by go_keep, by go_keep, by go_keep, by go_keep, by go_keep, by go_keep, bA (by assumption) _⟩))
    (first
      | (go_at_call 35; refine (sound0 (roomOf sl) 0 0 A1 n c1 ss _ HL.out hn1 hn HX.out (by decide) (by decide) HO.out HRi.out HW.out (HR3.out.below (by go_split_ands; assumption))).mono ?_; rintro e w2 ⟨rfl, hb2⟩)
      | (go_at_call 36; refine (room_any A n c st hd nd sl _).mono ?_; rintro e w3 ⟨rfl, rfl⟩)
      | (go_at_call 37; refine (sameCodes0 A1 A n c1 c ss _ HL.out hn (HR3.out.below (by go_split_ands; assumption)) (HR.out.below (by go_split_ands; assumption))).mono ?_; rintro e w4 ⟨rfl, hb4⟩))
  rename_i hHeld
  have HH := hide hHeld
  obtain ⟨x0, x1, x2, x3, x4, y0, y1, y2, y3, y4, y5, hlow⟩ := hHeld
  have HLow := hide hlow
  have hszl : w.heap.size + 1 < w4.heap.size := World.block_lt_of_cell? w4 _ y0
  clear hlow hb2 hb4 hk g1 g2 hD1 hD1d c0 c1' c2 c3 c4 s0 s1 s2 s3 s4 s5
  have hx0 : ∀ (o o' : Obj), ((w4.alloc o).alloc o').cell? ⟨w.heap.size, 0, none⟩ = some (.slice A n c) := fun o o' => bget (bA (bA (Below.refl _ _) o) o') x0
  have hrA : ∀ (o o' : Obj), Rd ((w4.alloc o).alloc o') 1 A n (strs ss) := fun o o' => HR.out.below (bA (bA HLow.out o) o')
  go_wp2_with (at_builtin; refine wpList_append_rd (v := .slice none 0 0) _ rfl _ _ 49 rfl (w4.heap.size + 1 + 1) 9 _ 1 16 Tryz.underlying49 info_str rfl (by decide) rfl (own_nil _ _ _ _) rfl (hrA _ _) (strs_one _) ?c1 ?c2 ?c3 ?_; (case c1 => simp only [maxLen]; omega); (case c2 => omega); (case c3 => simp); intro v5 w5 hown5 hg5 hat5; simp only [Nat.zero_add, List.nil_append] at hown5; obtain ⟨A5, c5, rfl, hc5⟩ := own_slice hown5; have HG5 := hide (Blk.grown (Blk.new1 (w := w4.alloc (.map #[] 0)) (g := w4.heap.size + 1) (by simp) 88 #[.pointer (some ⟨gd, 0, none⟩), .slice A n c, .int .i64 (st : Int), .int .i64 (hd : Int), .int .i64 (nd : Int), .int .i64 sl, .int .i64 0, .int .i64 0, .int .i64 0, .slice none 0 0, .map none, .map none, .map none, .int .i64 0, .int .i64 0, .int .i64 0, .pointer none, .pointer none, .slice none 0 0, .int .i64 0, .int .i64 life, .int .i64 (-1), .int .i64 0, .int .i64 0, .int .i64 0, .int .i64 0, .map (some w4.heap.size), .slice none 0 0, .slice none 0 0, .int .i64 0]) hg5 (by simp [Value.ownBlock])); have HB5 := hide ((Below.grown (bA (bA (Below.refl w4.heap.size w4) (.map #[] 0)) (.cells #[.pointer (some ⟨gd, 0, none⟩), .slice A n c, .int .i64 (st : Int), .int .i64 (hd : Int), .int .i64 (nd : Int), .int .i64 sl, .int .i64 0, .int .i64 0, .int .i64 0, .slice none 0 0, .map none, .map none, .map none, .int .i64 0, .int .i64 0, .int .i64 0, .pointer none, .pointer none, .slice none 0 0, .int .i64 0, .int .i64 life, .int .i64 (-1), .int .i64 0, .int .i64 0, .int .i64 0, .int .i64 0, .map (some w4.heap.size), .slice none 0 0, .slice none 0 0, .int .i64 0] 88)) hg5 (bA (bA (Below.refl w4.heap.size w4) (.map #[] 0)) (.cells #[.pointer (some ⟨gd, 0, none⟩), .slice A n c, .int .i64 (st : Int), .int .i64 (hd : Int), .int .i64 (nd : Int), .int .i64 sl, .int .i64 0, .int .i64 0, .int .i64 0, .slice none 0 0, .map none, .map none, .map none, .int .i64 0, .int .i64 0, .int .i64 0, .pointer none, .pointer none, .slice none 0 0, .int .i64 0, .int .i64 life, .int .i64 (-1), .int .i64 0, .int .i64 0, .int .i64 0, .int .i64 0, .map (some w4.heap.size), .slice none 0 0, .slice none 0 0, .int .i64 0] 88)).size (fun q e => by simp [Value.ownBlock] at e))); have u1 : w5.cell? ⟨w4.heap.size + 1, 1, none⟩ = some (.slice A n c) := HG5.out.cell 1; have uf1 := HG5.out.frozen 1; have z0 := bget HB5.out y0; have z1 := bget HB5.out y1; have z2 := bget HB5.out y2; have z3 := bget HB5.out y3; have z4 := bget HB5.out y4; have z5 := bget HB5.out y5)
  have HG6 := hide (HG5.out.set_ 1 (.slice A5 n c5))
  have HL6 := hide (show Below w.heap.size w (w5.setCell ⟨w4.heap.size + 1, 1, none⟩ (.slice A5 n c5)) from bS (bT HLow.out HB5.out) (by omega) _)
  have hfar : ∀ {a : Addr} {v : Value}, w4.cell? a = some v → (w5.setCell ⟨w4.heap.size + 1, 1, none⟩ (.slice A5 n c5)).cell? a = some v := fun {a v} h => bget (bS HB5.out (by omega) _) h
  have X1 := hide (hfar x1)
  have X2 := hide (hfar x2)
  have Y1 := hide (hfar y1)
  clear hfar x0 x1 x2 x3 x4 y0 y1 y2 y3 y4 y5 z0 z1 z2 z3 z4 z5 u1 uf1 hx0 hrA hown5 hg5 hat5
  generalize w5.setCell ⟨w4.heap.size + 1, 1, none⟩ (.slice A5 n c5) = W6 at *
  refine (memoryOf0 (roomOf sl) 0 0 A1 n c1 ss _ HL.out hn HZ.out (HR3.out.below HL6.out)).mono ?_
  rintro e w7 ⟨⟨A7, c7, p1, p2, p3, rfl⟩, hb7⟩
  have HG7 := hide (HG6.out.below hb7)
  have m6 : w7.cell? ⟨w4.heap.size + 1, 6, none⟩ = some (.int .i64 0) := by simpa using HG7.out.cell 6
  have mf6 := HG7.out.frozen 6
  have m7 : w7.cell? ⟨w4.heap.size + 1, 7, none⟩ = some (.int .i64 0) := by simpa using HG7.out.cell 7
  have mf7 := HG7.out.frozen 7
  have m8 : w7.cell? ⟨w4.heap.size + 1, 8, none⟩ = some (.int .i64 0) := by simpa using HG7.out.cell 8
  have mf8 := HG7.out.frozen 8
  have m9 : w7.cell? ⟨w4.heap.size + 1, 9, none⟩ = some (.slice none 0 0) := by simpa using HG7.out.cell 9
  have mf9 := HG7.out.frozen 9
  have m10 : w7.cell? ⟨w4.heap.size + 1, 10, none⟩ = some (.map none) := by simpa using HG7.out.cell 10
  have mf10 := HG7.out.frozen 10
  have m11 : w7.cell? ⟨w4.heap.size + 1, 11, none⟩ = some (.map none) := by simpa using HG7.out.cell 11
  have mf11 := HG7.out.frozen 11
  have m12 : w7.cell? ⟨w4.heap.size + 1, 12, none⟩ = some (.map none) := by simpa using HG7.out.cell 12
  have mf12 := HG7.out.frozen 12
  have m13 : w7.cell? ⟨w4.heap.size + 1, 13, none⟩ = some (.int .i64 0) := by simpa using HG7.out.cell 13
  have mf13 := HG7.out.frozen 13
  have m14 : w7.cell? ⟨w4.heap.size + 1, 14, none⟩ = some (.int .i64 0) := by simpa using HG7.out.cell 14
  have mf14 := HG7.out.frozen 14
  have m15 : w7.cell? ⟨w4.heap.size + 1, 15, none⟩ = some (.int .i64 0) := by simpa using HG7.out.cell 15
  have mf15 := HG7.out.frozen 15
  have m22 : w7.cell? ⟨w4.heap.size + 1, 22, none⟩ = some (.int .i64 0) := by simpa using HG7.out.cell 22
  have mf22 := HG7.out.frozen 22
  have m23 : w7.cell? ⟨w4.heap.size + 1, 23, none⟩ = some (.int .i64 0) := by simpa using HG7.out.cell 23
  have mf23 := HG7.out.frozen 23
  have m24 : w7.cell? ⟨w4.heap.size + 1, 24, none⟩ = some (.int .i64 0) := by simpa using HG7.out.cell 24
  have mf24 := HG7.out.frozen 24
  have k1 := bget hb7 X1.out
  have HL7 := hide (bT HL6.out hb7)
  have lG7 : w4.heap.size + 1 < w7.heap.size := HG7.out.lt
  have HX2 := hide (bget hb7 X2.out)
  have HY1 := hide (bget hb7 Y1.out)
  clear hb7
  go_wp2_with fail
  have HG8 := hide (((((((((((((HG7.out.set_ 6 (.int .i64 (roomOf sl))).set_ 7 (.int .i64 0)).set_ 8 (.int .i64 0)).set_ 9 (.slice A7 n c7)).set_ 10 (.map (some p1))).set_ 11 (.map (some p2))).set_ 12 (.map (some p3))).set_ 13 (.int .i64 (wt0 ss : Nat))).set_ 14 (.int .i64 0)).set_ 15 (.int .i64 0)).set_ 22 (.int .i64 (wt0 ss : Nat))).set_ 23 (.int .i64 0)).set_ 24 (.int .i64 0))
  have HL8 := hide (show Below w.heap.size w (((((((((((((w7.setCell ⟨w4.heap.size + 1, 6, none⟩ (.int .i64 (roomOf sl))).setCell ⟨w4.heap.size + 1, 7, none⟩ (.int .i64 0)).setCell ⟨w4.heap.size + 1, 8, none⟩ (.int .i64 0)).setCell ⟨w4.heap.size + 1, 9, none⟩ (.slice A7 n c7)).setCell ⟨w4.heap.size + 1, 10, none⟩ (.map (some p1))).setCell ⟨w4.heap.size + 1, 11, none⟩ (.map (some p2))).setCell ⟨w4.heap.size + 1, 12, none⟩ (.map (some p3))).setCell ⟨w4.heap.size + 1, 13, none⟩ (.int .i64 (wt0 ss : Nat))).setCell ⟨w4.heap.size + 1, 14, none⟩ (.int .i64 0)).setCell ⟨w4.heap.size + 1, 15, none⟩ (.int .i64 0)).setCell ⟨w4.heap.size + 1, 22, none⟩ (.int .i64 (wt0 ss : Nat))).setCell ⟨w4.heap.size + 1, 23, none⟩ (.int .i64 0)).setCell ⟨w4.heap.size + 1, 24, none⟩ (.int .i64 0)) from (bS (bS (bS (bS (bS (bS (bS (bS (bS (bS (bS (bS (bS HL7.out (by omega) _) (by omega) _) (by omega) _) (by omega) _) (by omega) _) (by omega) _) (by omega) _) (by omega) _) (by omega) _) (by omega) _) (by omega) _) (by omega) _) (by omega) _))
  have hfar : ∀ {b o : Nat} {v : Value}, b < w4.heap.size + 1 → w7.cell? ⟨b, o, none⟩ = some v → (((((((((((((w7.setCell ⟨w4.heap.size + 1, 6, none⟩ (.int .i64 (roomOf sl))).setCell ⟨w4.heap.size + 1, 7, none⟩ (.int .i64 0)).setCell ⟨w4.heap.size + 1, 8, none⟩ (.int .i64 0)).setCell ⟨w4.heap.size + 1, 9, none⟩ (.slice A7 n c7)).setCell ⟨w4.heap.size + 1, 10, none⟩ (.map (some p1))).setCell ⟨w4.heap.size + 1, 11, none⟩ (.map (some p2))).setCell ⟨w4.heap.size + 1, 12, none⟩ (.map (some p3))).setCell ⟨w4.heap.size + 1, 13, none⟩ (.int .i64 (wt0 ss : Nat))).setCell ⟨w4.heap.size + 1, 14, none⟩ (.int .i64 0)).setCell ⟨w4.heap.size + 1, 15, none⟩ (.int .i64 0)).setCell ⟨w4.heap.size + 1, 22, none⟩ (.int .i64 (wt0 ss : Nat))).setCell ⟨w4.heap.size + 1, 23, none⟩ (.int .i64 0)).setCell ⟨w4.heap.size + 1, 24, none⟩ (.int .i64 0)).cell? ⟨b, o, none⟩ = some v := by
    intro b o v hb h
    rw [← h]
    repeat rw [World.cell?_setCell_other _ _ _ _ (by intro e; cases e; omega)]
  have K1 := hide (hfar (by omega) k1)
  have K2 := hide (hfar (by omega) HX2.out)
  have J1 := hide (hfar (by omega) HY1.out)
  clear hfar k1 HX2 HY1 m6 m7 m8 m9 m10 m11 m12 m13 m14 m15 m22 m23 m24 mf6 mf7 mf8 mf9 mf10 mf11 mf12 mf13 mf14 mf15 mf22 mf23 mf24
  generalize (((((((((((((w7.setCell ⟨w4.heap.size + 1, 6, none⟩ (.int .i64 (roomOf sl))).setCell ⟨w4.heap.size + 1, 7, none⟩ (.int .i64 0)).setCell ⟨w4.heap.size + 1, 8, none⟩ (.int .i64 0)).setCell ⟨w4.heap.size + 1, 9, none⟩ (.slice A7 n c7)).setCell ⟨w4.heap.size + 1, 10, none⟩ (.map (some p1))).setCell ⟨w4.heap.size + 1, 11, none⟩ (.map (some p2))).setCell ⟨w4.heap.size + 1, 12, none⟩ (.map (some p3))).setCell ⟨w4.heap.size + 1, 13, none⟩ (.int .i64 (wt0 ss : Nat))).setCell ⟨w4.heap.size + 1, 14, none⟩ (.int .i64 0)).setCell ⟨w4.heap.size + 1, 15, none⟩ (.int .i64 0)).setCell ⟨w4.heap.size + 1, 22, none⟩ (.int .i64 (wt0 ss : Nat))).setCell ⟨w4.heap.size + 1, 23, none⟩ (.int .i64 0)).setCell ⟨w4.heap.size + 1, 24, none⟩ (.int .i64 0)) = W8 at *
  refine (lockNew_any st _ st1 st2).mono ?_
  rintro e w9 ⟨⟨lt, rfl⟩, hb9⟩
  have HG9 := hide (HG8.out.below hb9)
  have HL9 := hide (bT HL8.out hb9)
  have m16 : w9.cell? ⟨w4.heap.size + 1, 16, none⟩ = some (.pointer none) := by simpa using HG9.out.cell 16
  have mf16 := HG9.out.frozen 16
  have k1 := bget hb9 K1.out
  have lG9 : w4.heap.size + 1 < w9.heap.size := HG9.out.lt
  have HK2 := hide (bget hb9 K2.out)
  have HJ1 := hide (bget hb9 J1.out)
  clear hb9
  go_wp2_with fail
  have HG10 := hide (show Blk (w9.setCell ⟨w4.heap.size + 1, 16, none⟩ (.pointer lt)) (w4.heap.size + 1) 88 #[.pointer (some ⟨gd, 0, none⟩), .slice A5 n c5, .int .i64 (st : Int), .int .i64 (hd : Int), .int .i64 (nd : Int), .int .i64 sl, .int .i64 (roomOf sl), .int .i64 0, .int .i64 0, .slice A7 n c7, .map (some p1), .map (some p2), .map (some p3), .int .i64 (wt0 ss : Nat), .int .i64 0, .int .i64 0, .pointer lt, .pointer none, .slice none 0 0, .int .i64 0, .int .i64 life, .int .i64 (-1), .int .i64 (wt0 ss : Nat), .int .i64 0, .int .i64 0, .int .i64 0, .map (some w4.heap.size), .slice none 0 0, .slice none 0 0, .int .i64 0] by
    have := HG9.out.set_ 16 (.pointer lt)
    simpa using this)
  have HL10 := hide (show Below w.heap.size w (w9.setCell ⟨w4.heap.size + 1, 16, none⟩ (.pointer lt)) from bS HL9.out (by omega) _)
  have lG10 : w4.heap.size + 1 < w9.heap.size := lG9
  have K10 := hide (show (w9.setCell ⟨w4.heap.size + 1, 16, none⟩ (.pointer lt)).cell? ⟨w.heap.size, 2, none⟩ = some (.int .i64 (hd : Int)) by rw [← HK2.out]; exact World.cell?_setCell_other _ _ _ _ (fun e => absurd (congrArg Addr.block e) (by simp; omega)))
  have J10 := hide (show (w9.setCell ⟨w4.heap.size + 1, 16, none⟩ (.pointer lt)).cell? ⟨w.heap.size + 1, 1, none⟩ = some (.int .i64 0) by rw [← HJ1.out]; exact World.cell?_setCell_other _ _ _ _ (fun e => absurd (congrArg Addr.block e) (by simp; omega)))
  obtain ⟨i0, hi0, hz0, hz1, hz2⟩ := info_parts info_int
  clear k1 m16 mf16
  go_loopg [89] st (fun gf i wr => ∃ (k : Nat) (v : Value), st ≤ k + gf ∧ k ≤ st ∧ i = .int .i64 k ∧ Blk wr (w4.heap.size + 1) 88 #[.pointer (some ⟨gd, 0, none⟩), .slice A5 n c5, .int .i64 (st : Int), .int .i64 (hd : Int), .int .i64 (nd : Int), .int .i64 sl, .int .i64 (roomOf sl), .int .i64 0, .int .i64 0, .slice A7 n c7, .map (some p1), .map (some p2), .map (some p3), .int .i64 (wt0 ss : Nat), .int .i64 0, .int .i64 0, .pointer lt, .pointer none, v, .int .i64 0, .int .i64 life, .int .i64 (-1), .int .i64 (wt0 ss : Nat), .int .i64 0, .int .i64 0, .int .i64 0, .map (some w4.heap.size), .slice none 0 0, .slice none 0 0, .int .i64 0] ∧ wr.ownsRow w9.heap.size 3 1 v k (List.replicate k (.int .i64 0)) ∧ Below w.heap.size w wr ∧ w9.heap.size ≤ wr.heap.size ∧ wr.cell? ⟨w.heap.size, 2, none⟩ = some (.int .i64 (hd : Int)) ∧ wr.cell? ⟨w.heap.size + 1, 1, none⟩ = some (.int .i64 0))
  case atStart => exact ⟨0, _, by omega, by omega, rfl, HG10.out, own_nil _ _ _ _, HL10.out, by simp [World.setCell], K10.out, J10.out⟩
  case round =>
    obtain ⟨k, v, hg, hk, rfl, hb, hv, hlow, hw9, hk2, hj1⟩ := hrel
    by_cases hlt : k < st
    · have vB : ∀ q, v.ownBlock = some q → w9.heap.size ≤ q := own_base hv
      have v1 : some (w4.heap.size + 1) ≠ v.ownBlock := fun e => by have := vB _ e.symm; omega
      have lG : w4.heap.size + 1 < wr.heap.size := hb.lt
      have cT : wr.cell? ⟨w4.heap.size + 1, 18, none⟩ = some v := hb.cell 18
      have fT : wr.frozen? ⟨w4.heap.size + 1, 18, none⟩ = false := hb.frozen 18
      have hvA : ∀ o : Obj, (wr.alloc o).drew.ownsRow w9.heap.size 3 1 v k (List.replicate k (.int .i64 0)) := fun o => own_below hv (bD (bA (Below.refl _ _) o))
      have HB := hide hb
      have HV := hide hv
      have HLw := hide hlow
      have HK := hide hk2
      clear hb hv hlow hk2
      go_wp2_with fail
      go_region_law
        ((refine step_append_lies _ (by rfl) _ _ _ (by rfl) w9.heap.size 3 i0 _ 1 8 Tryz.underlying66 hi0 hz0 hz1 hz2 rfl (by omega) v k (List.replicate k (.int .i64 0)) (by rfl) (hvA _) ⟨wr.heap.size, 0, none⟩ 1 1 [.int .i64 0] (by rfl) (by rfl) (World.news_of_block (cs := #[.int .i64 0]) (t := 3) (fr := (0, 0)) (heap_alloc_new wr _)) (by simp [Value.oneCell']) (by omega) (by simp only [maxLen]; omega) (by omega) (by simp; omega) (wr.heap.size + 1) (by simp) ?_; intro g' cap wx hown1 hgrow hat hlt'; have hb1 := hide ((Blk.drew_ (HB.out.alloc _)).grown hgrow v1); have cT1 : wx.cell? ⟨w4.heap.size + 1, 18, none⟩ = some v := hb1.out.cell 18; have fT1 : wx.frozen? ⟨w4.heap.size + 1, 18, none⟩ = false := hb1.out.frozen 18))
      all_goals go_wp2_with fail
      all_goals go_roundg (gk - 1)
      case' measure => omega
      all_goals first | omega | skip
      all_goals
        have hsz9 := hgrow.size
        have hlA := bD (bA HLw.out (.cells #[.int .i64 0] 3))
        have hsx : wr.heap.size ≤ wx.heap.size := Nat.le_trans (bA (Below.refl wr.heap.size wr) (.cells #[.int .i64 0] 3)).size hsz9
        have far : ∀ {b o : Nat} {u : Value}, b < w4.heap.size + 1 → wr.cell? ⟨b, o, none⟩ = some u → (wx.setCell ⟨w4.heap.size + 1, 18, none⟩ (.slice (some ⟨g', 0, none⟩) (k + 1) cap)).cell? ⟨b, o, none⟩ = some u := by
          intro b o u hb h
          rw [World.cell?_setCell_other _ _ _ _ (fun e => absurd (congrArg Addr.block e) (by simp; omega))]
          have hlt2 : b < (wr.alloc (.cells #[.int .i64 0] 3)).drew.heap.size := Nat.lt_of_lt_of_le (by omega) (bA (Below.refl wr.heap.size wr) (.cells #[.int .i64 0] 3)).size
          rw [hgrow.cell_far ⟨b, o, none⟩ hlt2 (fun e => by have := vB b e.symm; omega)]
          exact bget (bA (Below.refl wr.heap.size wr) (.cells #[.int .i64 0] 3)) h
        refine ⟨k + 1, _, by omega, by omega, by go_num, ?_, own_move (v := .slice (some ⟨g', 0, none⟩) (k + 1) cap) (by rw [List.replicate_succ']; exact hown1) (fun q hq => Below.heap_setCell _ _ _ _ (by have := own_base hown1 q hq; simp; omega)), bS (hlA.grown hgrow hlA.size (fun q hq => by have := vB _ hq; omega)) (by omega) _, by simp [World.setCell]; omega, far (by omega) HK.out, far (by omega) hj1⟩
        have := hb1.out.set_ 18 (.slice (some ⟨g', 0, none⟩) (k + 1) cap)
        simpa using this
    · obtain rfl : k = st := by omega
      have HB := hide hb
      have HLw := hide hlow
      have HJ := hide hj1
      have lG : w4.heap.size + 1 < wr.heap.size := hb.lt
      obtain ⟨A8, c8, rfl, hc8⟩ := own_slice hv
      obtain ⟨W, rfl⟩ : ∃ W, W = wr := ⟨_, rfl⟩
      have HK2 := hide hk2
      clear hb hlow hj1 hv
      go_wp2_with fail
      clear hk2
      obtain ⟨j0, hj0, jz0, jz1, jz2⟩ := info_parts info_handler
      go_loopg [105] hd (fun gf i wr => ∃ (j : Nat) (v : Value) (xs : List Value), hd ≤ j + gf ∧ j ≤ hd ∧ i = .int .i64 j ∧ Blk wr (w4.heap.size + 1) 88 #[.pointer (some ⟨gd, 0, none⟩), .slice A5 n c5, .int .i64 (k : Int), .int .i64 (hd : Int), .int .i64 (nd : Int), .int .i64 sl, .int .i64 (roomOf sl), .int .i64 0, .int .i64 0, .slice A7 n c7, .map (some p1), .map (some p2), .map (some p3), .int .i64 (wt0 ss : Nat), .int .i64 0, .int .i64 0, .pointer lt, .pointer none, .slice A8 k c8, .int .i64 0, .int .i64 life, .int .i64 (-1), .int .i64 (wt0 ss : Nat), .int .i64 0, .int .i64 0, .int .i64 0, .map (some w4.heap.size), v, .slice none 0 0, .int .i64 0] ∧ wr.ownsRow W.heap.size 61 1 v j xs ∧ Below w.heap.size w wr ∧ W.heap.size ≤ wr.heap.size ∧ wr.cell? ⟨w.heap.size + 1, 1, none⟩ = some (.int .i64 0))
      case atStart => exact ⟨0, _, [], by omega, by omega, rfl, HB.out, own_nil _ _ _ _, HLw.out, Nat.le_refl _, HJ.out⟩
      case round =>
        obtain ⟨j, v, xs, hg, hj, rfl, hb, hv, hlow, hwW, hj1⟩ := hrel
        by_cases hlt : j < hd
        · have vB : ∀ q, v.ownBlock = some q → W.heap.size ≤ q := own_base hv
          have v1 : some (w4.heap.size + 1) ≠ v.ownBlock := fun e => by have := vB _ e.symm; omega
          have lGr : w4.heap.size + 1 < wr.heap.size := hb.lt
          have cT : wr.cell? ⟨w4.heap.size + 1, 27, none⟩ = some v := hb.cell 27
          have fT : wr.frozen? ⟨w4.heap.size + 1, 27, none⟩ = false := hb.frozen 27
          have hvA : ∀ o o' : Obj, ((wr.alloc o).alloc o').ownsRow W.heap.size 61 1 v j xs := fun o o' => own_below hv (bA (bA (Below.refl _ _) o) o')
          have HB2 := hide hb
          have HV := hide hv
          have HLw2 := hide hlow
          clear hb hv hlow
          go_wp2_with (at_builtin; refine wpList_append_lies _ rfl _ _ _ rfl W.heap.size 61 j0 _ 1 8 Tryz.underlying85 hj0 jz0 jz1 jz2 rfl (by omega) v j xs rfl (hvA _ _) ⟨wr.heap.size + 1, 0, none⟩ 1 1 [.pointer (some ⟨wr.heap.size, 0, none⟩)] rfl rfl (by have := World.news_of_block (cs := #[.pointer (some ⟨wr.heap.size, 0, none⟩)]) (t := 61) (fr := (0, 0)) (heap_alloc_new (wr.alloc (.cells #[.int .i64 0, .int .i64 0, .pointer none, .string ⟨#[]⟩, .int .i64 0, .int .i64 0, .slice none 0 0, .int .i64 0, .bool false] 65)) _); simpa using this) (by simp [Value.oneCell']) (by omega) (by simp only [maxLen]; omega) (by omega) (by simp; omega) (wr.heap.size + 1 + 1) (by simp) ?_; intro g' cap wx hown1 hgrow hat hlt'; have hb1 := hide (((HB2.out.alloc _).alloc _).grown hgrow v1); have cT1 : wx.cell? ⟨w4.heap.size + 1, 27, none⟩ = some v := hb1.out.cell 27; have fT1 := hb1.out.frozen 27)
          go_roundg (gk - 1)
          case measure => omega
          case rel =>
            have hsz9 := hgrow.size
            have hlA := bA (bA HLw2.out (.cells #[.int .i64 0, .int .i64 0, .pointer none, .string ⟨#[]⟩, .int .i64 0, .int .i64 0, .slice none 0 0, .int .i64 0, .bool false] 65)) (.cells #[.pointer (some ⟨wr.heap.size, 0, none⟩)] 61)
            have hsr := (bA (bA (Below.refl wr.heap.size wr) (.cells #[.int .i64 0, .int .i64 0, .pointer none, .string ⟨#[]⟩, .int .i64 0, .int .i64 0, .slice none 0 0, .int .i64 0, .bool false] 65)) (.cells #[.pointer (some ⟨wr.heap.size, 0, none⟩)] 61)).size
            have hsx : wr.heap.size ≤ wx.heap.size := Nat.le_trans hsr hsz9
            have far : ∀ {b o : Nat} {u : Value}, b < w4.heap.size + 1 → wr.cell? ⟨b, o, none⟩ = some u → (wx.setCell ⟨w4.heap.size + 1, 27, none⟩ (.slice (some ⟨g', 0, none⟩) (j + 1) cap)).cell? ⟨b, o, none⟩ = some u := by
              intro b o u hb h
              rw [World.cell?_setCell_other _ _ _ _ (fun e => absurd (congrArg Addr.block e) (by simp; omega))]
              have hlt2 : b < ((wr.alloc (.cells #[.int .i64 0, .int .i64 0, .pointer none, .string ⟨#[]⟩, .int .i64 0, .int .i64 0, .slice none 0 0, .int .i64 0, .bool false] 65)).alloc (.cells #[.pointer (some ⟨wr.heap.size, 0, none⟩)] 61)).heap.size := Nat.lt_of_lt_of_le (by omega) hsr
              rw [hgrow.cell_far ⟨b, o, none⟩ hlt2 (fun e => by have := vB b e.symm; omega)]
              exact bget (bA (bA (Below.refl wr.heap.size wr) (.cells #[.int .i64 0, .int .i64 0, .pointer none, .string ⟨#[]⟩, .int .i64 0, .int .i64 0, .slice none 0 0, .int .i64 0, .bool false] 65)) (.cells #[.pointer (some ⟨wr.heap.size, 0, none⟩)] 61)) h
            refine ⟨j + 1, _, _, by omega, by omega, by go_num, ?_, own_move (v := .slice (some ⟨g', 0, none⟩) (j + 1) cap) hown1 (fun q hq => Below.heap_setCell _ _ _ _ (by have := own_base hown1 q hq; simp; omega)), bS (hlA.grown hgrow hlA.size (fun q hq => by have := vB _ hq; omega)) (by omega) _, by simp [World.setCell]; omega, far (by omega) hj1⟩
            have := hb1.out.set_ 27 (.slice (some ⟨g', 0, none⟩) (j + 1) cap)
            simpa using this
        · obtain rfl : j = hd := by omega
          have HB2 := hide hb
          have HLw2 := hide hlow
          have lG2 : w4.heap.size + 1 < wr.heap.size := hb.lt
          have q0 : wr.cell? ⟨w4.heap.size + 1, 0, none⟩ = some (.pointer (some ⟨gd, 0, none⟩)) := hb.cell 0
          have q2 : wr.cell? ⟨w4.heap.size + 1, 2, none⟩ = some (.int .i64 (k : Int)) := hb.cell 2
          have q4 : wr.cell? ⟨w4.heap.size + 1, 4, none⟩ = some (.int .i64 (nd : Int)) := hb.cell 4
          have q5 : wr.cell? ⟨w4.heap.size + 1, 5, none⟩ = some (.int .i64 sl) := hb.cell 5
          have q20 : wr.cell? ⟨w4.heap.size + 1, 20, none⟩ = some (.int .i64 life) := hb.cell 20
          have q17 : wr.cell? ⟨w4.heap.size + 1, 17, none⟩ = some (.pointer none) := hb.cell 17
          have qf17 := hb.frozen 17
          have hDr : DiskAt wr gd nd base := by
            obtain ⟨a1, a2, a3, a4, hB, hbs⟩ := HD.out
            exact ⟨a1, a2, a3, a4, hB.below hlow, hbs⟩
          obtain ⟨V, rfl⟩ : ∃ V, V = wr := ⟨_, rfl⟩
          have HQ20 := hide q20
          clear hb hv hlow
          go_wp2_with fail
          refine (open_any (w4.heap.size + 1) gd nd base k (nd : Int) sl life 0 (.pointer none) V hDr hnd rfl (by omega) h2 (by omega) (by omega) (by omega) (by omega) (by omega) (by omega) q0 q2 q4 q5 q20 q17 qf17).mono ?_
          rintro e wz ⟨rfl, q, w1z, hbz, hlogz, rfl⟩
          have HBz := hide ((HB2.out.below hbz).set_ 17 (.pointer (some ⟨q, 0, none⟩)))
          have HLz := hide (show Below w.heap.size w (w1z.setCell ⟨w4.heap.size + 1, 17, none⟩ (.pointer (some ⟨q, 0, none⟩))) from bS (bT HLw2.out hbz) (by omega) _)
          have HLog := hide hlogz
          clear hbz hlogz q0 q2 q4 q5 q20 q17 qf17
          go_wp2_with fail
          go_ret2
          exact ⟨⟨_, q, rfl, HLog.out, HBz.out.lt, by simpa using HBz.out.cell 20, by simpa using HBz.out.cell 17, by simpa using HBz.out.cell 19, by simpa using HBz.out.cell 21, by simpa using HBz.out.cell 13, by simpa using HBz.out.cell 22⟩, HLz.out⟩
end Go.Proofs.YtjdojkgfajndbaaGreatDoor.B
