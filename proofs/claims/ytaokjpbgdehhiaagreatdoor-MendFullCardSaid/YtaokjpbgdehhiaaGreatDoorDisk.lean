/- disk.New of no image, and Sectors of it; slices.Clone of bytes. -/
import Derived.Test.YtaokjpbgdehhiaaGreatDoorAppend
import Derived.Test.YtaokjpbgdehhiaaGreatDoorEmpty
import Derived.Test.YtaokjpbgdehhiaaGreatDoorMake
import Derived.Laws.MakeOwn
import Derived.Laws.CopyOwn
namespace Go.Proofs.YtaokjpbgdehhiaaGreatDoor.B
open Go.RowKit

set_option maxHeartbeats 400000 in
theorem cloneB_any (A : Option Addr) (n c : Nat) (xs : List Value) (w : World) (h1 : ∀ u ∈ xs, u.oneCell' = true) (hn : n ≤ 1099511627776) (hr : Rd w 1 A n xs) :
    Calls Tryz.prog 13 #[.slice A n c] w fun e w' => (∃ v, e = .returned v ∧ w'.ownsRow w.heap.size 5 1 v n xs) ∧ Below w.heap.size w w' := by
  have qT : ∀ (w : World) (a : Option Addr) (n c n' c' : Nat), (binOp .eql 26 (.slice a n c) (.slice none n' c')).run Tryz.prog w = .ok (.bool a.isNone) w := fun w a n c n' c' => Lib.run_eql_slice_nil w _ _ a n c n' c' Tryz.underlying26
  cases A with
  | none =>
    have hn0 : n = 0 := by
      rcases Nat.eq_zero_or_pos n with h | h
      · exact h
      · obtain ⟨_, h, _⟩ := hr.cells h; cases h
    subst hn0
    obtain rfl : xs = [] := List.eq_nil_of_length_eq_zero (by simpa using hr.len)
    go_enter Tryz.func13, Tryz.ntmps13
    go_wp2
    go_ret
    exact ⟨⟨_, rfl, own_nil _ _ _ _⟩, Below.refl _ _⟩
  | some ad =>
    go_enter Tryz.func13, Tryz.ntmps13
    have own0 : (w.alloc (.cells #[] 5)).ownsRow w.heap.size 5 1 (.slice (some ⟨w.heap.size, 0, none⟩) 0 0) 0 [] :=
      ⟨by simp, .inr ⟨w.heap.size, 0, #[], rfl, Nat.le_refl _, heap_alloc_new w _, Nat.le_refl _, by simp [maxLen], by simp, by simp⟩⟩
    have hr1 : Rd (w.alloc (.cells #[] 5)) 1 (some ad) n xs := hr.below (bA (Below.refl _ _) _)
    go_wp2_with (at_builtin; refine wpList_append_rd _ rfl (.tmp 5) (.tmp 6) 26 rfl w.heap.size 5 _ 1 1 Tryz.underlying26 info_u8 rfl (by decide) rfl own0 rfl hr1 h1 ?c1 ?c2 ?c3 ?_; (case c1 => simp only [maxLen]; omega); (case c2 => omega); (case c3 => simp); intro v1 w1 hown hg hat)
    go_ret
    exact ⟨⟨_, rfl, by simpa using hown⟩, bG (bA (Below.refl _ _) _) own0 (Nat.le_refl _) hg⟩

/-- A disk of so many sectors, nothing done to it. -/
def DiskAt (w : World) (g : Nat) (n base : Nat) : Prop :=
  ∃ A1 c1 A2 c2, Blk w g 53 #[.slice A1 (n * 128) c1, .slice A2 (n * 128) c2, .slice none 0 0] ∧ base ≤ g

set_option maxRecDepth 100000 in
set_option maxHeartbeats 1000000 in
theorem diskNil_any (n : Nat) (w : World) (h1 : 1 ≤ n) (h2 : n ≤ 4096) :
    Calls Tryz.prog 6 #[.slice none 0 0, .int .i64 (n : Int)] w fun e w' => (∃ g, e = .returned (.tuple #[.pointer (some ⟨g, 0, none⟩), .int .i64 0]) ∧ DiskAt w' g n w.heap.size) ∧ Below w.heap.size w w' := by
  obtain ⟨Z, hZ, hmk⟩ := make_bytes (n * 128) (by omega)
  rw [show ((n * 128 : Nat) : Int) = (n : Int) * 128 by omega] at hmk
  have HZ := hide hZ
  clear hZ
  go_enter Tryz.func6, Tryz.ntmps6
  go_wp2_with (refine wpList_copy_nothing rfl (.tmp 26) (.tmp 27) 26 26 rfl 5 Tryz.underlying26 (by rw [Option.map_eq_some_iff]; obtain ⟨i, hi, hz⟩ := Option.map_eq_some_iff.1 info_u8; simp only [Prod.mk.injEq] at hz; exact ⟨i, hi, hz.2.1⟩) _ none _ _ 0 0 rfl rfl (by simp) ?_)
  refine (cloneB_any _ (n * 128) _ (zeros (n * 128)) _ (zeros_one _) (by omega) (Rd.of_blk (t := 5) (cs := Z) ?_ HZ.out (by simp [zeros]))).mono ?_
  · exact (Blk.new w 5 Z).alloc _
  rintro e w1 ⟨⟨v, rfl, hown⟩, hb⟩
  obtain ⟨A2, c2, rfl, hc2⟩ := own_slice hown
  have HB := hide (Blk.below (Blk.new1 (g := w.heap.size + 1) (by simp) _ _) hb)
  have HL := hide (bT (bA (bA (Below.refl w.heap.size w) _) _) hb)
  clear hown hb
  have d1 : w1.cell? ⟨w.heap.size + 1, 1, none⟩ = some (.slice none 0 0) := HB.out.cell 1
  have e1 := HB.out.frozen 1
  go_wp2_with fail
  go_ret2
  refine ⟨⟨_, rfl, some ⟨w.heap.size, 0, none⟩, n * 128, A2, c2, ?_, by omega⟩, bS HL.out (by omega) _⟩
  have := HB.out.set_ 1 (.slice A2 (n * 128) c2)
  simpa using this

theorem sectors_any (g n base : Nat) (w : World) (h : DiskAt w g n base) (h2 : n ≤ 4096) :
    Calls Tryz.prog 29 #[.pointer (some ⟨g, 0, none⟩)] w fun e w' => e = .returned (.int .i64 (n : Int)) ∧ w' = w := by
  obtain ⟨A1, c1, A2, c2, hB, _⟩ := h
  have d0 : w.cell? ⟨g, 0, none⟩ = some (.slice A1 (n * 128) c1) := hB.cell 0
  have hq : ((n : Int) * 128) / 128 = (n : Int) := by omega
  clear hB
  go_enter Tryz.func29, Tryz.ntmps29
  go_wp2_with fail
  go_ret
  exact ⟨by simp <;> omega, rfl⟩
end Go.Proofs.YtaokjpbgdehhiaaGreatDoor.B
