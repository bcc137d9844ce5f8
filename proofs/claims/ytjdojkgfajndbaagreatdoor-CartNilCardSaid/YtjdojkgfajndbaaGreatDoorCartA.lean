/- Small ones on cart.New's way: the document's Room, sameCodes, lock.New, wal.Open. -/
import Derived.Test.YtjdojkgfajndbaaGreatDoorSound
import Derived.Test.YtjdojkgfajndbaaGreatDoorDisk
import Derived.Test.YtjdojkgfajndbaaGreatDoorMend
import Derived.Laws.MakeOwn
namespace Go.Proofs.YtjdojkgfajndbaaGreatDoor.B
open Go.RowKit

theorem rroom_any (A : Option Addr) (n c : Nat) (st hd se sl : Int) (w : World) (h1 : 2 ≤ sl) (h2 : sl ≤ 1024) :
    Calls Tryz.prog 17 #[cfgV A n c st hd se sl] w fun e w' => e = .returned (.int .i64 (roomOf sl)) ∧ w' = w.alloc (.cells (cfgC A n c st hd se sl) 51) := by
  have hx : roomOf sl = (sl - 1) * 128 := by simp [roomOf]; omega
  have HX := hide hx
  clear hx
  go_enter Tryz.func17, Tryz.ntmps17
  go_wp2_with fail
  go_ret
  exact ⟨by rw [HX.out]; rfl, rfl⟩

set_option maxRecDepth 100000 in
set_option maxHeartbeats 1000000 in
theorem sameCodes0 (A A2 : Option Addr) (n c c2 : Nat) (ss : List ByteArray) (w : World) (hl : ss.length = n) (h2 : n ≤ 512) (hr : Rd w 3 A n (lvCells ss)) (hr2 : Rd w 1 A2 n (strs ss)) :
    Calls Tryz.prog 37 #[.slice A n c, .slice A2 n c2] w fun e w' => e = .returned (.bool true) ∧ Below w.heap.size w w' := by
  have HL := hide hl
  have HR := hide hr
  have HR2 := hide hr2
  clear hl hr hr2
  go_enter Tryz.func37, Tryz.ntmps37
  go_wp2_with fail
  go_loopg [14] n (fun gf i wr => ∃ k : Nat, n ≤ k + gf ∧ k ≤ n ∧ i = .int .i64 k ∧ Below w.heap.size w wr)
  case atStart => exact ⟨0, by omega, by omega, rfl, Below.refl _ _⟩
  case round =>
    obtain ⟨k, hg, hk, rfl, hlow⟩ := hrel
    by_cases hlt : k < n
    · obtain ⟨s, hs⟩ : ∃ s, ss[k]? = some s := ⟨ss[k]'(by rw [HL.out]; exact hlt), List.getElem?_eq_getElem _⟩
      obtain ⟨g1, g2, g3⟩ := lv_get ss k hs
      obtain ⟨ad, rfl, hc⟩ := (HR.out.below hlow).cells (by omega)
      have q1 := hc _ _ g1
      have q2 := hc _ _ g2
      have q3 := hc _ _ g3
      rw [add_next ad (k * 3) (by omega)] at q2 q3
      obtain ⟨ad2, rfl, hc2⟩ := (HR2.out.below (bA hlow (.cells #[.string s, .int .i64 0, .int .i64 0] 95))).at_ (k := k) (x := .string s) (by rw [strs_get, hs]; rfl)
      have HLow := hide hlow
      have ki0 : (0 : Int) ≤ (k : Int) := by omega
      have ki1 : (k : Int) < (n : Int) := by omega
      clear hc g1 g2 g3 hs hlow
      go_wp2_with fail
      go_quiet (fail)
      go_wp2_with fail
      go_roundg (gk - 1)
      case measure => omega
      case rel => exact ⟨k + 1, by omega, by omega, by go_num, by have hb := HLow.out; repeat (first | with_reducible exact hb | with_reducible refine bA ?_ _ | with_reducible refine bD ?_ | with_reducible refine bN ?_ _)⟩
    · obtain rfl : k = n := by omega
      have HLow := hide hlow
      clear hlow
      go_wp2_with fail
      go_ret
      exact ⟨rfl, HLow.out⟩

theorem infoStripe : (Tryz.prog.info? 177).map (fun i => (i.zero, i.size, i.bytes)) = some (some (.agg #[.int .i64 0, .int .i64 0, .int .i64 0]), 3, 24) := by kernel_rfl
set_option maxRecDepth 100000 in
theorem lockNew_any (n : Nat) (w : World) (h1 : 1 ≤ n) (h2 : n ≤ 64) :
    Calls Tryz.prog 39 #[.int .i64 (n : Int)] w fun e w' => (∃ p, e = .returned (.tuple #[.pointer p, .int .i64 0])) ∧ Below w.heap.size w w' := by
  obtain ⟨i, hi, h0, hs, hb⟩ := info_parts infoStripe
  have hmk : ∃ Z : Array Value, ∀ W : World, (Instr.makeSlice 136 (.int .i64 (n : Int)) (.int .i64 (n : Int))).run Tryz.prog W = .ok (.slice (some ⟨W.heap.size, 0, none⟩) n n) (W.alloc (.cells Z 177)) := by
    refine ⟨madeCells (Value.agg #[.int .i64 0, .int .i64 0, .int .i64 0]).cells (n * i.size), fun W => ?_⟩
    have := run_make (P := Tryz.prog) W 136 177 i _ Tryz.underlying136 hi h0 .i64 .i64 n n (by omega) (Int.le_refl _) (by rw [hb]; omega) (by omega)
    simpa using this
  obtain ⟨Z, hmk⟩ := hmk
  go_enter Tryz.func39, Tryz.ntmps39
  go_wp2_with fail
  go_ret2
  exact ⟨⟨_, rfl⟩, bA (bA (Below.refl _ _) _) _⟩

set_option maxRecDepth 100000 in
set_option maxHeartbeats 1000000 in
theorem fits_any (g n base : Nat) (from_ secs life lsn : Int) (w : World) (hD : DiskAt w g n base) (hn : n ≤ 4096) (h1 : 0 ≤ from_) (h2 : 1 ≤ secs) (h3 : secs ≤ n) (h4 : from_ ≤ n - secs) (h5 : 1 ≤ life) (h6 : life ≤ 1099511627776) (h7 : 0 ≤ lsn) (h8 : lsn ≤ 4611686018427387904) :
    Calls Tryz.prog 132 #[.pointer (some ⟨g, 0, none⟩), .int .i64 from_, .int .i64 secs, .int .i64 life, .int .i64 lsn] w fun e w' => e = .returned (.bool true) ∧ w' = w := by
  go_enter Tryz.func132, Tryz.ntmps132
  go_wp2_with (go_at_call 34; refine (sectors_any g n base _ hD hn).mono ?_; rintro e w1 ⟨rfl, rfl⟩)
  go_ret
  exact ⟨rfl, rfl⟩

/-- A log of a new life. -/
def LogAt (w : World) (g : Nat) (lsn free : Int) : Prop :=
  ∃ c0 c1 c2 c3 c4 c6 c9 c10 c11 c12 c13 c14 c15, Blk w g 125 #[c0, c1, c2, c3, c4, .int .i64 lsn, c6, .int .i64 lsn, .int .i64 free, c9, c10, c11, c12, c13, c14, c15]
set_option maxRecDepth 100000 in
set_option maxHeartbeats 1000000 in
theorem walOpen_any (g n base bufs : Nat) (from_ secs life lsn : Int) (w : World) (hD : DiskAt w g n base) (hn : n ≤ 4096) (h1 : 0 ≤ from_) (h2 : 1 ≤ secs) (h3 : secs ≤ n) (h4 : from_ ≤ n - secs) (h5 : 1 ≤ life) (h6 : life ≤ 1099511627776) (h7 : 0 ≤ lsn) (h8 : lsn ≤ 4611686018427387904) (b1 : 1 ≤ bufs) (b2 : bufs ≤ 64) :
    Calls Tryz.prog 79 #[.pointer (some ⟨g, 0, none⟩), .int .i64 from_, .int .i64 secs, .int .i64 life, .int .i64 lsn, .int .i64 (bufs : Int)] w fun e w' => (∃ q, e = .returned (.tuple #[.pointer (some ⟨q, 0, none⟩), .int .i64 0]) ∧ LogAt w' q lsn secs ∧ w.heap.size ≤ q) ∧ Below w.heap.size w w' := by
  have hmm := @run_makeMap Tryz.prog
  have z1 : decide ((bufs : Int) < 1) = false := by simp; omega
  have z2 : decide ((64 : Int) < (bufs : Int)) = false := by simp; omega
  go_enter Tryz.func79, Tryz.ntmps79
  go_wp2_with (go_at_call 132; refine (fits_any g n base from_ secs life lsn _ hD hn h1 h2 h3 h4 h5 h6 h7 h8).mono ?_; rintro e w1 ⟨rfl, rfl⟩)
  go_ret2
  exact ⟨⟨_, rfl, ⟨_, _, _, _, _, _, _, _, _, _, _, _, _, Blk.new1 (by simp) _ _⟩, by simp⟩, bA (bA (Below.refl _ _) _) _⟩
end Go.Proofs.YtjdojkgfajndbaaGreatDoor.B
