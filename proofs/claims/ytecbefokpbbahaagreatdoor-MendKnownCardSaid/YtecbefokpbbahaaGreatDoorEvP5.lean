import Derived.Test.YtecbefokpbbahaaGreatDoorEvSt
namespace Go.Ev
open Go Go.Proofs
theorem p5 (e0 e1 : Nat) : piece Tryz.prog 33105 kb5 kt5 (s4 e0 e1) = some (s5 e0 e1) := by kernel_rfl
end Go.Ev
