/- The document's Check. Printed by wip/gen_rcheck.py. -/
import Derived.Test.YtnaapkoladiomaaGreatDoorGA
import Derived.Deep.RegionWith
import Derived.Deep.Cut
namespace Go.Proofs.YtnaapkoladiomaaGreatDoor.B
open Go.RowKit

set_option maxRecDepth 100000 in
set_option maxHeartbeats 12800000 in
theorem rcheck_any (A : Option Addr) (n c : Nat) (ss : List ByteArray) (st hd se sl : Int) (w : World) (hl : ss.length = n) (hn : n ≤ 9223372036854775807) (hz : ∀ s ∈ ss, s.size ≤ 9223372036854775807) (hr : Rd w 1 A n (strs ss)) :
    Calls Tryz.prog 18 #[cfgV A n c st hd se sl] w fun e w' => e = .returned (.int .i64 (emptyE ss st hd se sl)) ∧ Below w.heap.size w w' := by
  by_cases h1 : st < 1
  · have hx : emptyE ss st hd se sl = 2 := by simp [emptyE, h1]
    have HX := hide hx
    clear hx hl
    go_enter Tryz.func18, Tryz.ntmps18
    go_wp2_with fail
    go_ret
    exact ⟨by rw [HX.out]; rfl, bA (Below.refl _ _) _⟩
  by_cases h2 : 64 < st
  · have hx : emptyE ss st hd se sl = 2 := by simp [emptyE, h1, h2]
    have HX := hide hx
    clear hx hl
    go_enter Tryz.func18, Tryz.ntmps18
    go_wp2_with fail
    go_ret
    exact ⟨by rw [HX.out]; rfl, bA (Below.refl _ _) _⟩
  by_cases h3 : hd < 1
  · have hx : emptyE ss st hd se sl = 2 := by simp [emptyE, h1, h2, h3]
    have HX := hide hx
    clear hx hl
    go_enter Tryz.func18, Tryz.ntmps18
    go_wp2_with fail
    go_ret
    exact ⟨by rw [HX.out]; rfl, bA (Below.refl _ _) _⟩
  by_cases h4 : 16 < hd
  · have hx : emptyE ss st hd se sl = 2 := by simp [emptyE, h1, h2, h3, h4]
    have HX := hide hx
    clear hx hl
    go_enter Tryz.func18, Tryz.ntmps18
    go_wp2_with fail
    go_ret
    exact ⟨by rw [HX.out]; rfl, bA (Below.refl _ _) _⟩
  by_cases h5 : sl < 2
  · have hx : emptyE ss st hd se sl = 130 := by simp [emptyE, roomOf, h1, h2, h3, h4, h5]
    have HX := hide hx
    clear hx hl
    go_enter Tryz.func18, Tryz.ntmps18
    go_wp2_with fail
    go_ret
    exact ⟨by rw [HX.out]; rfl, bA (Below.refl _ _) _⟩
  by_cases h6 : 1024 < sl
  · have hx : emptyE ss st hd se sl = 130 := by simp [emptyE, roomOf, h1, h2, h3, h4, h5, h6]
    have HX := hide hx
    clear hx hl
    go_enter Tryz.func18, Tryz.ntmps18
    go_wp2_with fail
    go_ret
    exact ⟨by rw [HX.out]; rfl, bA (Below.refl _ _) _⟩
  have hro : roomOf sl = (sl - 1) * 128 := by simp [roomOf, h5, h6]
  have k1 : IntKind.i64.wrap (2 * sl) = 2 * sl := IntWalk.i64_in _ (by omega)
  have k2 : IntKind.i64.wrap (2 * sl + 1) = 2 * sl + 1 := IntWalk.i64_in _ (by omega)
  have hro1 : ¬ roomOf sl = 0 := by omega
  by_cases h7 : se < 2 * sl + 1
  · have hx : emptyE ss st hd se sl = 130 := by simp [emptyE, h1, h2, h3, h4, hro1, h7]
    have HX := hide hx
    clear hx hl hro hro1
    go_enter Tryz.func18, Tryz.ntmps18
    go_wp2_with fail
    go_ret
    exact ⟨by rw [HX.out]; rfl, bA (Below.refl _ _) _⟩
  by_cases h8 : 4096 < se
  · have hx : emptyE ss st hd se sl = 130 := by simp [emptyE, h1, h2, h3, h4, hro1, h7, h8]
    have HX := hide hx
    clear hx hl hro hro1
    go_enter Tryz.func18, Tryz.ntmps18
    go_wp2_with fail
    go_ret
    exact ⟨by rw [HX.out]; rfl, bA (Below.refl _ _) _⟩
  have hx : emptyE ss st hd se sl = newE ss (roomOf sl) := by simp [emptyE, h1, h2, h3, h4, hro1, h7, h8]
  have HX := hide hx
  have HB0 := hide (bA (Below.refl w.heap.size w) (.cells (cfgC A n c st hd se sl) 24))
  have HC := hide (Blk.new1 (w := w) rfl 24 (cfgC A n c st hd se sl))
  have HR := hide (hr.below HB0.out)
  have HL := hide hl
  have HSz := hide hz
  clear hx hl hro hro1 hr hz
  go_enter Tryz.func18, Tryz.ntmps18
  go_upto_region 5 with fail
  generalize hW : w.alloc (.cells (cfgC A n c st hd se sl) 24) = W0 at *
  have c0 : W0.cell? ⟨w.heap.size, 0, none⟩ = some (.slice A n c) := HC.out.cell 0
  have c1 : W0.cell? ⟨w.heap.size, 1, none⟩ = some (.int .i64 st) := HC.out.cell 1
  have c2 : W0.cell? ⟨w.heap.size, 2, none⟩ = some (.int .i64 hd) := HC.out.cell 2
  have c3 : W0.cell? ⟨w.heap.size, 3, none⟩ = some (.int .i64 se) := HC.out.cell 3
  have c4 : W0.cell? ⟨w.heap.size, 4, none⟩ = some (.int .i64 sl) := HC.out.cell 4
  have lC : w.heap.size < W0.heap.size := HC.out.lt
  have d0 : ∀ o o' : Obj, ((W0.alloc o).alloc o').cell? ⟨w.heap.size, 0, none⟩ = some (.slice A n c) := fun o o' => bget (bA (bA (Below.refl W0.heap.size W0) o) o') c0
  go_cut [3, 4] from 45 (fun s3 s4 wx => StAt W0 ss n (roomOf sl) s3 wx ∧ s4 = .int .i64 (newE ss (roomOf sl)))
  case first =>
    clear h1 h2 h3 h4 h5 h6 h7 h8 k1 k2
    go_region_with (first
      | (go_at_call 16; refine (rroom13_any A n c st hd se sl _).mono ?_; rintro e w2 ⟨rfl, rfl⟩)
      | (go_at_call 44; refine (rnew2_any A n c ss (roomOf sl) _ HL.out hn HSz.out (HR.out.below (by repeat (first | with_reducible exact Below.refl _ _ | with_reducible refine bA ?_ _ | with_reducible refine bD ?_)))).mono ?_; rintro e w3 ⟨⟨r3, A3, n3, c3, rfl, hr3, hA3⟩, hb3⟩
         (first
           | (have HZ := hide (show Blk w3 W0.heap.size 29 zeroC from (Blk.drew_ ((Blk.new1 (w := W0) rfl 29 zeroC).alloc _)).below hb3)
              have z0 : w3.cell? ⟨W0.heap.size, 0, none⟩ = some (.int .i64 0) := HZ.out.cell 0; have z1 : w3.cell? ⟨W0.heap.size, 1, none⟩ = some (.int .i64 0) := HZ.out.cell 1; have z2 : w3.cell? ⟨W0.heap.size, 2, none⟩ = some (.int .i64 0) := HZ.out.cell 2; have z3 : w3.cell? ⟨W0.heap.size, 3, none⟩ = some (.slice none 0 0) := HZ.out.cell 3; have z4 : w3.cell? ⟨W0.heap.size, 4, none⟩ = some (.slice none 0 0) := HZ.out.cell 4; have z5 : w3.cell? ⟨W0.heap.size, 5, none⟩ = some (.slice none 0 0) := HZ.out.cell 5
              have f0 := HZ.out.frozen 0; have f1 := HZ.out.frozen 1; have f2 := HZ.out.frozen 2; have f3 := HZ.out.frozen 3; have f4 := HZ.out.frozen 4; have f5 := HZ.out.frozen 5)
           | (have HZ := hide (show Blk w3 (W0.heap.size + 1) 29 zeroC from (Blk.drew_ (Blk.new1 (w := W0.alloc (.cells (cfgC A n c st hd se sl) 24)) (by simp) 29 zeroC)).below hb3)
              have z0 : w3.cell? ⟨W0.heap.size + 1, 0, none⟩ = some (.int .i64 0) := HZ.out.cell 0; have z1 : w3.cell? ⟨W0.heap.size + 1, 1, none⟩ = some (.int .i64 0) := HZ.out.cell 1; have z2 : w3.cell? ⟨W0.heap.size + 1, 2, none⟩ = some (.int .i64 0) := HZ.out.cell 2; have z3 : w3.cell? ⟨W0.heap.size + 1, 3, none⟩ = some (.slice none 0 0) := HZ.out.cell 3; have z4 : w3.cell? ⟨W0.heap.size + 1, 4, none⟩ = some (.slice none 0 0) := HZ.out.cell 4; have z5 : w3.cell? ⟨W0.heap.size + 1, 5, none⟩ = some (.slice none 0 0) := HZ.out.cell 5
              have f0 := HZ.out.frozen 0; have f1 := HZ.out.frozen 1; have f2 := HZ.out.frozen 2; have f3 := HZ.out.frozen 3; have f4 := HZ.out.frozen 4; have f5 := HZ.out.frozen 5)
           | skip)))
    all_goals go_wp2_with fail
    all_goals go_meet
    all_goals refine ⟨?_, rfl⟩
    all_goals first
      | (fail_if_success (have := HZ.out)); exact StAt.new hr3 (bT (bD (bA (Below.refl W0.heap.size W0) _)) hb3)
      | exact StAt.set HZ.out hr3 (fun ad e => by have := hA3 ad e; simp at this; omega) (bT (bD (bA (bA (Below.refl W0.heap.size W0) _) _)) hb3) (by omega)
  case rest =>
    obtain ⟨⟨_, hb⟩, rfl⟩ := hcut
    have HB := hide (bT HB0.out hb)
    clear hb
    go_wp2_with fail
    go_ret
    exact ⟨by rw [HX.out]; rfl, HB.out⟩
end Go.Proofs.YtnaapkoladiomaaGreatDoor.B
