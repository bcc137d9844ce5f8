/- MendFull: the walk. -/
import Derived.Test.YtaokjpbgdehhiaaGreatDoorFDk
namespace Go.Proofs.YtaokjpbgdehhiaaGreatDoor.B
open Go.RowKit

theorem count_any (g : Nat) (A : Option Addr) (n cp : Nat) (w : World) (d2 : w.cell? ⟨g, 2, none⟩ = some (.slice A n cp)) :
    Calls Tryz.prog 8 #[.pointer (some ⟨g, 0, none⟩)] w fun e w' => e = .returned (.int .i64 (n : Int)) ∧ w' = w := by
  go_enter Tryz.func8, Tryz.ntmps8
  go_wp2_with fail
  go_ret
  exact ⟨rfl, rfl⟩
theorem within_any (x : Int) (w : World) : Calls Tryz.prog 7 #[.int .i64 x, .int .i64 7] w fun e w' => (∃ k : Nat, k < 7 ∧ e = .returned (.int .i64 (k : Int))) ∧ w' = w := by
  have b1 : -7 < Int.tmod x 7 ∧ Int.tmod x 7 < 7 := ⟨by have := Int.lt_tmod_of_pos x (show (0 : Int) < 7 by decide); omega, Int.tmod_lt_of_pos x (by decide)⟩
  generalize hm : Int.tmod x 7 = m at b1
  by_cases h : m < 0
  · have w1 : IntKind.i64.wrap (m + 7) = m + 7 := IntWalk.i64_in _ (by omega)
    go_enter Tryz.func7, Tryz.ntmps7
    go_wp2_with fail
    go_ret
    exact ⟨⟨(m + 7).toNat, by omega, by rw [show (((m + 7).toNat : Nat) : Int) = m + 7 by omega]; rfl⟩, rfl⟩
  · go_enter Tryz.func7, Tryz.ntmps7
    go_wp2_with fail
    go_ret
    exact ⟨⟨m.toNat, by omega, by rw [show ((m.toNat : Nat) : Int) = m by omega]; rfl⟩, rfl⟩
theorem config_any (w : World) : Calls Tryz.prog 4 #[] w fun e w' => (∃ cs, e = .returned (.agg #[.slice (some ⟨w.heap.size + 1, 0, none⟩) 2 2, .int .i64 4, .int .i64 2, .int .i64 16, .int .i64 4]) ∧ Blk w' (w.heap.size + 1) 9 cs ∧ cs.toList = [.string ⟨#[97]⟩, .string ⟨#[98]⟩]) ∧ Below w.heap.size w w' := by
  go_enter Tryz.func4, Tryz.ntmps4
  go_wp2_with fail
  refine bodyPost_ret (v := .agg #[.slice (some ⟨w.heap.size + 1, 0, none⟩) 2 2, .int .i64 4, .int .i64 2, .int .i64 16, .int .i64 4]) (by simp [results, Tryz.results4, go_sem, *]) rfl ⟨⟨_, rfl, Blk.new1 (g := w.heap.size + 1) (by simp) _ _, rfl⟩, bA (bA (Below.refl _ _) _) _⟩
end Go.Proofs.YtaokjpbgdehhiaaGreatDoor.B
