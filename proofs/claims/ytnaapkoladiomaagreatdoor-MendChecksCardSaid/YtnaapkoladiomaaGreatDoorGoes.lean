/- mend.goes of a new ledger's state; mend.epochs, mend.sector, mend.put. -/
import Derived.Test.YtnaapkoladiomaaGreatDoorSound
import Derived.Test.YtnaapkoladiomaaGreatDoorMend
import Derived.Test.YtnaapkoladiomaaGreatDoorWord
import Derived.Deep.RegionHeld3
namespace Go.Proofs.YtnaapkoladiomaaGreatDoor.B
open Go.RowKit

set_option maxRecDepth 100000 in
theorem goes1_any (s : ByteArray) (a b : Int) (w : World) :
    Calls Tryz.prog 47 #[.string s, .agg #[.string s, .int .i64 a, .int .i64 b]] w fun e w' => e = .returned (.bool true) ∧ Below w.heap.size w w' := by
  go_enter Tryz.func47, Tryz.ntmps47
  go_wp2_with fail
  go_ret
  exact ⟨rfl, bA (Below.refl _ _) _⟩

set_option maxRecDepth 100000 in
set_option maxHeartbeats 1600000 in
theorem equal0 (A A2 : Option Addr) (n c c2 : Nat) (ss : List ByteArray) (w : World) (hl : ss.length = n) (h2 : n ≤ 512) (hr : Rd w 3 A n (lvCells ss)) (hr2 : Rd w 1 A2 n (strs ss)) :
    Calls Tryz.prog 46 #[.slice A2 n c2, .slice A n c, .func (.func 47) #[] #[]] w fun e w' => e = .returned (.bool true) ∧ Below w.heap.size w w' := by
  have HL := hide hl
  have HR := hide hr
  have HR2 := hide hr2
  clear hl hr hr2
  go_enter Tryz.func46, Tryz.ntmps46
  go_wp2_with fail
  go_loopg [17] n (fun gf i wr => ∃ k : Nat, n ≤ k + gf ∧ k ≤ n ∧ i = .int .i64 (k : Int) ∧ Below w.heap.size w wr)
  case atStart => exact ⟨0, by omega, by omega, rfl, Below.refl _ _⟩
  case round =>
    obtain ⟨k, hg, hk, rfl, hlow⟩ := hrel
    by_cases hlt : k < n
    · obtain ⟨s, hs⟩ : ∃ s, ss[k]? = some s := ⟨ss[k]'(by rw [HL.out]; exact hlt), List.getElem?_eq_getElem _⟩
      obtain ⟨g1, g2, g3⟩ := lv_get ss k hs
      obtain ⟨ad, rfl, hc⟩ := (HR.out.below hlow).cells (by omega)
      have q1 := hc _ _ g1
      have q2 := hc _ _ g2
      have q3 := hc _ _ g3
      rw [add_next ad (k * 3) (by omega)] at q2 q3
      obtain ⟨ad2, rfl, hc2⟩ := (HR2.out.below hlow).at_ (k := k) (x := .string s) (by rw [strs_get, hs]; rfl)
      have HLow := hide hlow
      have ki0 : (0 : Int) ≤ (k : Int) := by omega
      have ki1 : (k : Int) < (n : Int) := by omega
      clear hc g1 g2 g3 hs hlow
      go_wp2_with fail
      refine (goes1_any s 0 0 _).mono ?_
      rintro e w2 ⟨rfl, hb2⟩
      have HB2 := hide (bT (bA HLow.out _) hb2)
      clear hb2
      go_wp2_with fail
      go_roundg (gk - 1)
      case measure => omega
      case rel => exact ⟨k + 1, by omega, by omega, by go_num, HB2.out⟩
    · obtain rfl : k = n := by omega
      have HLow := hide hlow
      clear hlow
      go_wp2_with fail
      go_ret
      exact ⟨rfl, HLow.out⟩

theorem epochs_any (n : Int) (w : World) (h1 : 1 ≤ n) (h2 : n ≤ 1099511627775) : Calls Tryz.prog 21 #[.int .i64 n] w fun e w' => e = .returned (.bool true) ∧ w' = w := by
  go_enter Tryz.func21, Tryz.ntmps21
  go_wp2_with fail
  go_ret
  exact ⟨rfl, rfl⟩

set_option maxRecDepth 100000 in
set_option maxHeartbeats 3200000 in
theorem goes0 (A A1 : Option Addr) (n c c1 : Nat) (st hd se sl : Int) (ss : List ByteArray) (w : World) (hl : ss.length = n) (hn1 : 1 ≤ n) (hn : n ≤ 512) (hro : 0 ≤ roomOf sl ∧ roomOf sl ≤ 131072)
    (hok : ss.all (okText · 40) = true) (hri : rise ss = true) (hwt : (wt0 ss : Int) ≤ roomOf sl) (hr : Rd w 1 A n (strs ss)) (hr3 : Rd w 3 A1 n (lvCells ss)) :
    Calls Tryz.prog 22 #[cfgV A n c st hd se sl, stV (roomOf sl) 0 0 A1 n c1] w fun e w' => e = .returned (.bool true) ∧ Below w.heap.size w w' := by
  have HL := hide hl
  have HO := hide hok
  have HRi := hide hri
  have HW := hide hwt
  have HX := hide hro
  have HB := hide (bA (bA (Below.refl w.heap.size w) (.cells (cfgC A n c st hd se sl) 24)) (.cells (stC (roomOf sl) 0 0 A1 n c1) 29))
  have HR := hide (hr.below HB.out)
  have HR3 := hide (hr3.below HB.out)
  have hb1 := Blk.new1 (w := w) rfl 24 (cfgC A n c st hd se sl)
  have HC := hide (hb1.alloc (.cells (stC (roomOf sl) 0 0 A1 n c1) 29))
  have HS := hide (Blk.new1 (w := w.alloc (.cells (cfgC A n c st hd se sl) 24)) (g := w.heap.size + 1) (by simp) 29 (stC (roomOf sl) 0 0 A1 n c1))
  clear hl hok hri hwt hro hr hr3 hb1
  go_enter Tryz.func22, Tryz.ntmps22
  go_wp2_with fail
  generalize hW : (w.alloc (.cells (cfgC A n c st hd se sl) 24)).alloc (.cells (stC (roomOf sl) 0 0 A1 n c1) 29) = W0 at *
  have c0 : W0.cell? ⟨w.heap.size, 0, none⟩ = some (.slice A n c) := HC.out.cell 0
  have c1_ : W0.cell? ⟨w.heap.size, 1, none⟩ = some (.int .i64 st) := HC.out.cell 1
  have c2 : W0.cell? ⟨w.heap.size, 2, none⟩ = some (.int .i64 hd) := HC.out.cell 2
  have c3 : W0.cell? ⟨w.heap.size, 3, none⟩ = some (.int .i64 se) := HC.out.cell 3
  have c4 : W0.cell? ⟨w.heap.size, 4, none⟩ = some (.int .i64 sl) := HC.out.cell 4
  have s0 : W0.cell? ⟨w.heap.size + 1, 0, none⟩ = some (.int .i64 (roomOf sl)) := HS.out.cell 0
  have s1 : W0.cell? ⟨w.heap.size + 1, 1, none⟩ = some (.int .i64 0) := HS.out.cell 1
  have s2 : W0.cell? ⟨w.heap.size + 1, 2, none⟩ = some (.int .i64 0) := HS.out.cell 2
  have s3 : W0.cell? ⟨w.heap.size + 1, 3, none⟩ = some (.slice A1 n c1) := HS.out.cell 3
  have s4 : W0.cell? ⟨w.heap.size + 1, 4, none⟩ = some (.slice none 0 0) := HS.out.cell 4
  have s5 : W0.cell? ⟨w.heap.size + 1, 5, none⟩ = some (.slice none 0 0) := HS.out.cell 5
  have lW : w.heap.size + 1 < W0.heap.size := HS.out.lt
  clear hW HC HS
  go_region_held3 (fun w' => w'.cell? ⟨w.heap.size, 0, none⟩ = some (.slice A n c) ∧ w'.cell? ⟨w.heap.size, 1, none⟩ = some (.int .i64 st) ∧ w'.cell? ⟨w.heap.size, 2, none⟩ = some (.int .i64 hd) ∧ w'.cell? ⟨w.heap.size, 3, none⟩ = some (.int .i64 se) ∧ w'.cell? ⟨w.heap.size, 4, none⟩ = some (.int .i64 sl) ∧ w'.cell? ⟨w.heap.size + 1, 0, none⟩ = some (.int .i64 (roomOf sl)) ∧ w'.cell? ⟨w.heap.size + 1, 1, none⟩ = some (.int .i64 0) ∧ w'.cell? ⟨w.heap.size + 1, 2, none⟩ = some (.int .i64 0) ∧ w'.cell? ⟨w.heap.size + 1, 3, none⟩ = some (.slice A1 n c1) ∧ w'.cell? ⟨w.heap.size + 1, 4, none⟩ = some (.slice none 0 0) ∧ w'.cell? ⟨w.heap.size + 1, 5, none⟩ = some (.slice none 0 0) ∧ Below W0.heap.size W0 w')
    (first
      | (go_split_ands; refine ⟨bget (by assumption) (by assumption), bget (by assumption) (by assumption), bget (by assumption) (by assumption), bget (by assumption) (by assumption), bget (by assumption) (by assumption), bget (by assumption) (by assumption), bget (by assumption) (by assumption), bget (by assumption) (by assumption), bget (by assumption) (by assumption), bget (by assumption) (by assumption), bget (by assumption) (by assumption), bT (by assumption) (by assumption)⟩)
      | (refine ⟨by go_keep, by go_keep, by go_keep, by go_keep, by go_keep, by go_keep, by go_keep, by go_keep, by go_keep, by go_keep, by go_keep, bD (Below.refl _ _)⟩)
      | (go_split_ands; refine ⟨by go_keep, by go_keep, by go_keep, by go_keep, by go_keep, by go_keep, by go_keep, by go_keep, by go_keep, by go_keep, by go_keep, bA (by assumption) _⟩))
    (first
      | (go_at_call 15; refine (room_any A n c st hd se sl _).mono ?_; rintro e w3 ⟨rfl, rfl⟩)
      | (go_at_call 45; refine (sound0 (roomOf sl) 0 0 A1 n c1 ss _ HL.out hn1 hn HX.out (by decide) (by decide) HO.out HRi.out HW.out (HR3.out.below (by go_split_ands; assumption))).mono ?_; rintro e w2 ⟨rfl, hb2⟩)
      | (go_at_call 46; refine (equal0 A1 A n c1 c ss _ HL.out hn (HR3.out.below (by go_split_ands; assumption)) (HR.out.below (by go_split_ands; assumption))).mono ?_; rintro e w4 ⟨rfl, hb4⟩))
  rename_i hHeld
  obtain ⟨x0, x1, x2, x3, x4, y0, y1, y2, y3, y4, y5, hlow⟩ := hHeld
  have HLow := hide hlow
  clear hlow hb2 hb4 x0 x1 x2 x3 x4 y0 y1 y2 y3 y4 y5 c0 c1_ c2 c3 c4 s0 s1 s2 s3 s4 s5
  go_wp2_with fail
  go_ret
  exact ⟨rfl, bT HB.out HLow.out⟩
end Go.Proofs.YtnaapkoladiomaaGreatDoor.B
