/- A memory that there is not: what its methods answer; two empty replies, two empty states are the same. -/
import Derived.Test.YtjdojkgfajndbaaGreatDoorBase
namespace Go.Proofs.YtjdojkgfajndbaaGreatDoor.B
open Go.RowKit

abbrev noReply : Value := .agg #[.string ⟨#[]⟩, .int .i64 0, .int .i64 0, .slice none 0 0, .int .i64 0]
abbrev noState0 : Value := .agg #[.int .i64 0, .int .i64 0, .int .i64 0, .slice none 0 0, .slice none 0 0, .slice none 0 0]
abbrev noView : Value := .agg #[.int .i64 0, .int .i64 0, .int .i64 0, .int .i64 0, .int .i64 0, .int .i64 0, .int .i64 0, .int .i64 0]

theorem at_nil (h : Int) (w : World) : Calls Tryz.prog 20 #[.pointer none, .int .i64 h] w fun e w' => e = .returned (.pointer none) ∧ w' = w := by
  go_enter Tryz.func20, Tryz.ntmps20
  go_wp2_with fail
  go_ret
  exact ⟨rfl, rfl⟩
theorem reply_nil (h : Int) (w : World) : Calls Tryz.prog 4 #[.pointer none, .int .i64 h] w fun e w' => e = .returned (.tuple #[noReply, .bool false]) ∧ Below w.heap.size w w' := by
  go_enter Tryz.func4, Tryz.ntmps4
  go_wp2_with fail
  refine (at_nil h _).mono ?_
  rintro e w1 ⟨rfl, rfl⟩
  go_wp2_with fail
  refine bodyPost_ret (v := .tuple #[noReply, .bool false]) (by simp [results, Tryz.results4, go_sem, *]) rfl ⟨rfl, ?_⟩
  repeat (first | with_reducible exact Below.refl _ _ | with_reducible refine bA ?_ _ | with_reducible refine bD ?_ | with_reducible refine bS ?_ (by omega) _)
theorem phase_nil (h : Int) (w : World) : Calls Tryz.prog 5 #[.pointer none, .int .i64 h] w fun e w' => e = .returned (.tuple #[.int .i64 (-1), .int .i64 0]) ∧ w' = w := by
  go_enter Tryz.func5, Tryz.ntmps5
  go_wp2_with fail
  refine (at_nil h _).mono ?_
  rintro e w1 ⟨rfl, rfl⟩
  go_wp2_with fail
  go_ret2
  exact ⟨rfl, rfl⟩
theorem start_nil (h : Int) (s1 s2 : ByteArray) (a b c : Int) (A : Option Addr) (n cp : Nat) (w : World) : Calls Tryz.prog 6 #[.pointer none, .int .i64 h, .agg #[.string s1, .int .i64 a, .slice A n cp, .string s2, .int .i64 b, .int .i64 c]] w fun e w' => e = .returned (.int .i64 0) ∧ Below w.heap.size w w' := by
  go_enter Tryz.func6, Tryz.ntmps6
  go_wp2_with fail
  go_ret
  exact ⟨rfl, bA (Below.refl _ _) _⟩
theorem step_nil (h : Int) (w : World) : Calls Tryz.prog 7 #[.pointer none, .int .i64 h] w fun e w' => e = .returned (.bool false) ∧ w' = w := by
  go_enter Tryz.func7, Tryz.ntmps7
  go_wp2_with fail
  refine (at_nil h _).mono ?_
  rintro e w1 ⟨rfl, rfl⟩
  go_wp2_with fail
  go_ret
  exact ⟨rfl, rfl⟩
theorem on_nil (h : Int) (w : World) : Calls Tryz.prog 8 #[.pointer none, .int .i64 h] w fun e w' => e = .returned (.int .i64 (-1)) ∧ w' = w := by
  go_enter Tryz.func8, Tryz.ntmps8
  go_wp2_with fail
  refine (at_nil h _).mono ?_
  rintro e w1 ⟨rfl, rfl⟩
  go_wp2_with fail
  go_ret
  exact ⟨rfl, rfl⟩
theorem number_nil (h : Int) (w : World) : Calls Tryz.prog 12 #[.pointer none, .int .i64 h] w fun e w' => e = .returned (.int .i64 0) ∧ w' = w := by
  go_enter Tryz.func12, Tryz.ntmps12
  go_wp2_with fail
  refine (at_nil h _).mono ?_
  rintro e w1 ⟨rfl, rfl⟩
  go_wp2_with fail
  go_ret
  exact ⟨rfl, rfl⟩
theorem last_nil (h : Int) (w : World) : Calls Tryz.prog 11 #[.pointer none, .int .i64 h] w fun e w' => e = .returned (.int .i64 0) ∧ w' = w := by
  go_enter Tryz.func11, Tryz.ntmps11
  go_wp2_with fail
  go_ret
  exact ⟨rfl, rfl⟩
theorem points_nil (w : World) : Calls Tryz.prog 13 #[.pointer none] w fun e w' => e = .returned (.slice none 0 0) ∧ w' = w := by
  go_enter Tryz.func13, Tryz.ntmps13
  go_wp2_with fail
  go_ret
  exact ⟨rfl, rfl⟩
theorem state_nil (w : World) : Calls Tryz.prog 15 #[.pointer none] w fun e w' => e = .returned noState0 ∧ Below w.heap.size w w' := by
  go_enter Tryz.func15, Tryz.ntmps15
  go_wp2_with fail
  refine bodyPost_ret (v := noState0) (by simp [results, Tryz.results15, go_sem, *]) rfl ⟨rfl, ?_⟩
  repeat (first | with_reducible exact Below.refl _ _ | with_reducible refine bA ?_ _ | with_reducible refine bD ?_ | with_reducible refine bS ?_ (by omega) _)
theorem view_nil (w : World) : Calls Tryz.prog 10 #[.pointer none] w fun e w' => e = .returned noView ∧ Below w.heap.size w w' := by
  go_enter Tryz.func10, Tryz.ntmps10
  go_wp2_with fail
  refine bodyPost_ret (v := noView) (by simp [results, Tryz.results10, go_sem, *]) rfl ⟨rfl, ?_⟩
  repeat (first | with_reducible exact Below.refl _ _ | with_reducible refine bA ?_ _ | with_reducible refine bD ?_ | with_reducible refine bS ?_ (by omega) _)

abbrev noReplyC : Array Value := #[.string ⟨#[]⟩, .int .i64 0, .int .i64 0, .slice none 0 0, .int .i64 0]
abbrev noStateC : Array Value := #[.int .i64 0, .int .i64 0, .int .i64 0, .slice none 0 0, .slice none 0 0, .slice none 0 0]
set_option maxRecDepth 100000 in
theorem sameReply_nil (w : World) : Calls Tryz.prog 9 #[noReply, noReply] w fun e w' => e = .returned (.bool true) ∧ Below w.heap.size w w' := by
  go_enter Tryz.func9, Tryz.ntmps9
  go_wp2_with fail
  go_loopg [5] 0 (fun gf i W => i = .int .i64 0 ∧ (w.alloc (.cells noReplyC 29)).alloc (.cells noReplyC 29) = W)
  case atStart => exact ⟨rfl, rfl⟩
  case round =>
    obtain ⟨rfl, rfl⟩ := hrel
    go_wp2_with fail
    go_ret
    exact ⟨rfl, bA (bA (Below.refl _ _) _) _⟩
set_option maxRecDepth 100000 in
set_option maxHeartbeats 1000000 in
theorem sameState_nil (w : World) : Calls Tryz.prog 14 #[noState0, noState0] w fun e w' => e = .returned (.bool true) ∧ Below w.heap.size w w' := by
  go_enter Tryz.func14, Tryz.ntmps14
  go_wp2_with fail
  go_loopg [5] 0 (fun gf i W => i = .int .i64 0 ∧ (w.alloc (.cells noStateC 47)).alloc (.cells noStateC 47) = W)
  case atStart => exact ⟨rfl, rfl⟩
  case round =>
    obtain ⟨rfl, rfl⟩ := hrel
    go_wp2_with fail
    go_loopg [6] 0 (fun gf i W => i = .int .i64 0 ∧ (w.alloc (.cells noStateC 47)).alloc (.cells noStateC 47) = W)
    case atStart => exact ⟨rfl, rfl⟩
    case round =>
      obtain ⟨rfl, rfl⟩ := hrel
      go_wp2_with fail
      go_loopg [7] 0 (fun gf i W => i = .int .i64 0 ∧ (w.alloc (.cells noStateC 47)).alloc (.cells noStateC 47) = W)
      case atStart => exact ⟨rfl, rfl⟩
      case round =>
        obtain ⟨rfl, rfl⟩ := hrel
        go_wp2_with fail
        go_ret
        exact ⟨rfl, bA (bA (Below.refl _ _) _) _⟩
end Go.Proofs.YtjdojkgfajndbaaGreatDoor.B
