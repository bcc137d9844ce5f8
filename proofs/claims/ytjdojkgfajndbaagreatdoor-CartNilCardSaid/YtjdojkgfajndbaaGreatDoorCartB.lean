/- Shared.open and View of a new memory. -/
import Derived.Test.YtjdojkgfajndbaaGreatDoorCartA
import Derived.Deep.RegionHeld3
namespace Go.Proofs.YtjdojkgfajndbaaGreatDoor.B
open Go.RowKit

set_option maxRecDepth 100000 in
set_option maxHeartbeats 3200000 in
theorem open_any (g gd n base st : Nat) (se sl life lsn : Int) (u : Value) (w : World) (hD : DiskAt w gd n base) (hn : n ≤ 4096) (hse : se = (n : Int)) (h1 : 2 ≤ sl) (h2 : 2 * sl + 1 ≤ se) (h5 : 1 ≤ life) (h6 : life ≤ 1099511627776) (h7 : 0 ≤ lsn) (h8 : lsn ≤ 4611686018427387904) (b1 : 1 ≤ st) (b2 : st ≤ 64)
    (c0 : w.cell? ⟨g, 0, none⟩ = some (.pointer (some ⟨gd, 0, none⟩))) (c2 : w.cell? ⟨g, 2, none⟩ = some (.int .i64 (st : Int))) (c4 : w.cell? ⟨g, 4, none⟩ = some (.int .i64 se)) (c5 : w.cell? ⟨g, 5, none⟩ = some (.int .i64 sl)) (c20 : w.cell? ⟨g, 20, none⟩ = some (.int .i64 life))
    (c17 : w.cell? ⟨g, 17, none⟩ = some u) (f17 : w.frozen? ⟨g, 17, none⟩ = false) :
    Calls Tryz.prog 40 #[.pointer (some ⟨g, 0, none⟩), .int .i64 lsn] w fun e w' => e = .returned (.int .i64 0) ∧ ∃ q w1, Below w.heap.size w w1 ∧ LogAt w' q lsn (se - 2 * sl) ∧ w' = w1.setCell ⟨g, 17, none⟩ (.pointer (some ⟨q, 0, none⟩)) := by
  have hg := World.block_lt_of_cell? w _ c17
  have hD' : DiskAt w.drew gd n base := hD
  have HC := hide (fun W hW => walOpen_any gd n base st (2 * sl) (se - 2 * sl) life lsn W hW hn (by omega) (by omega) (by omega) (by omega) h5 h6 h7 h8 b1 b2)
  have p1 : IntKind.i64.wrap (2 * sl) = 2 * sl := IntWalk.i64_in _ (by omega)
  have p2 : IntKind.i64.wrap (se - 2 * sl) = se - 2 * sl := IntWalk.i64_in _ (by omega)
  clear hse h1 h2 hn h5 h6 h7 h8 b1 b2
  go_enter Tryz.func40, Tryz.ntmps40
  go_wp2_with fail
  go_region_held3 (fun w' => w'.cell? ⟨g, 0, none⟩ = some (.pointer (some ⟨gd, 0, none⟩)) ∧ w'.cell? ⟨g, 2, none⟩ = some (.int .i64 (st : Int)) ∧ w'.cell? ⟨g, 4, none⟩ = some (.int .i64 se) ∧ w'.cell? ⟨g, 5, none⟩ = some (.int .i64 sl) ∧ w'.cell? ⟨g, 20, none⟩ = some (.int .i64 life))
    (first
      | go_keep
      | (refine ⟨bget hb2 c0, bget hb2 c2, bget hb2 c4, bget hb2 c5, bget hb2 c20⟩))
    (first
      | (go_at_call 79; refine (HC.out _ hD').mono ?_; rintro e w2 ⟨⟨q, rfl, hlog, hq⟩, hb2⟩))
  rename_i hHeld
  have k17 : w2.cell? ⟨g, 17, none⟩ = some u := bget hb2 c17
  have kf17 : w2.frozen? ⟨g, 17, none⟩ = false := ((bcell hb2).2 g 17 hg).trans f17
  have HQ := hide (show g < q from Nat.lt_of_lt_of_le hg hq)
  have HL := hide hlog
  have HB := hide (bT (bD (Below.refl w.heap.size w)) hb2)
  clear hHeld hlog hb2 hq p1 p2 c0 c2 c4 c5 c20 c17 f17
  go_wp2_with fail
  go_ret
  obtain ⟨x0, x1, x2, x3, x4, x6, x9, x10, x11, x12, x13, x14, x15, hL⟩ := HL.out
  exact ⟨rfl, q, w2, HB.out, ⟨x0, x1, x2, x3, x4, x6, x9, x10, x11, x12, x13, x14, x15, hL.far (by simpa using Nat.ne_of_gt HQ.out) _⟩, rfl⟩

theorem durable_any (g : Nat) (lsn free : Int) (w : World) (h : LogAt w g lsn free) : Calls Tryz.prog 24 #[.pointer (some ⟨g, 0, none⟩)] w fun e w' => e = .returned (.int .i64 lsn) ∧ w' = w := by
  obtain ⟨x0, x1, x2, x3, x4, x6, x9, x10, x11, x12, x13, x14, x15, hB⟩ := h
  have c5 : w.cell? ⟨g, 7, none⟩ = some (.int .i64 lsn) := hB.cell 7
  clear hB
  go_enter Tryz.func24, Tryz.ntmps24
  go_wp2_with fail
  go_ret
  exact ⟨rfl, rfl⟩
theorem given_any (g : Nat) (lsn free : Int) (w : World) (h : LogAt w g lsn free) : Calls Tryz.prog 25 #[.pointer (some ⟨g, 0, none⟩)] w fun e w' => e = .returned (.int .i64 lsn) ∧ w' = w := by
  obtain ⟨x0, x1, x2, x3, x4, x6, x9, x10, x11, x12, x13, x14, x15, hB⟩ := h
  have c5 : w.cell? ⟨g, 5, none⟩ = some (.int .i64 lsn) := hB.cell 5
  clear hB
  go_enter Tryz.func25, Tryz.ntmps25
  go_wp2_with fail
  go_ret
  exact ⟨rfl, rfl⟩
theorem free_any (g : Nat) (lsn free : Int) (w : World) (h : LogAt w g lsn free) : Calls Tryz.prog 26 #[.pointer (some ⟨g, 0, none⟩)] w fun e w' => e = .returned (.int .i64 free) ∧ w' = w := by
  obtain ⟨x0, x1, x2, x3, x4, x6, x9, x10, x11, x12, x13, x14, x15, hB⟩ := h
  have c5 : w.cell? ⟨g, 8, none⟩ = some (.int .i64 free) := hB.cell 8
  clear hB
  go_enter Tryz.func26, Tryz.ntmps26
  go_wp2_with fail
  go_ret
  exact ⟨rfl, rfl⟩
end Go.Proofs.YtjdojkgfajndbaaGreatDoor.B
