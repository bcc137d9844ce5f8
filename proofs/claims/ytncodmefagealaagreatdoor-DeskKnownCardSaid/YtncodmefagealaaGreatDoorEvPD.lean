/- Contracts of functions of the program, walked, and plain laws. -/
import Derived.Test.YtncodmefagealaaGreatDoorEvSu
namespace Go.Ev
open Go Go.Proofs
theorem p12 (e0 e6 e13 e19 e25 e26 e32 : Nat) : candsP Tryz.prog (s11 e0 e6 e13 e19 e25 e26 e32) = some b12 ∧ ((b12[0]?).bind (pickP Tryz.prog (s11 e0 e6 e13 e19 e25 e26 e32))).bind (piece Tryz.prog 320 kb12 kt12) = some (s12 e0 e6 e13 e19 e25 e26 e32) ∧ ((b12[1]?).bind (pickP Tryz.prog (s11 e0 e6 e13 e19 e25 e26 e32))).bind (piece Tryz.prog 270 kb12 kt12) = some (s12 e0 e6 e13 e19 e25 e26 e32) := ⟨by kernel_rfl, by kernel_rfl, by kernel_rfl⟩
end Go.Ev
namespace Go.Ev
open Go Go.Proofs
theorem p13 (e0 e6 e13 e19 e25 e26 e32 : Nat) : piece Tryz.prog 4164 kb13 kt13 (s12 e0 e6 e13 e19 e25 e26 e32) = some (s13 e0 e6 e13 e19 e25 e26 e32) := by kernel_rfl
end Go.Ev
namespace Go.Ev
open Go Go.Proofs
theorem p14 (e0 e6 e13 e19 e25 e26 e32 : Nat) : candsP Tryz.prog (s13 e0 e6 e13 e19 e25 e26 e32) = some b14 ∧ ((b14[0]?).bind (pickP Tryz.prog (s13 e0 e6 e13 e19 e25 e26 e32))).bind (piece Tryz.prog 320 kb14 kt14) = some (s14 e0 e6 e13 e19 e25 e26 e32) ∧ ((b14[1]?).bind (pickP Tryz.prog (s13 e0 e6 e13 e19 e25 e26 e32))).bind (piece Tryz.prog 270 kb14 kt14) = some (s14 e0 e6 e13 e19 e25 e26 e32) := ⟨by kernel_rfl, by kernel_rfl, by kernel_rfl⟩
end Go.Ev
namespace Go.Ev
open Go Go.Proofs
theorem p15 (e0 e6 e13 e19 e25 e26 e32 : Nat) : piece Tryz.prog 1685 kb15 kt15 (s14 e0 e6 e13 e19 e25 e26 e32) = some (s15 e0 e6 e13 e19 e25 e26 e32) := by kernel_rfl
end Go.Ev
