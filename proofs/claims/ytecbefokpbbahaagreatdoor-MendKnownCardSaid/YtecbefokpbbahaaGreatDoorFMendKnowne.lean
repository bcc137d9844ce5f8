-- a closed fact of the row, alone
import Derived.Test.YtecbefokpbbahaaGreatDoorRows
import Derived.JoinedOf
import GoSem.ClaimSeven
import Derived.KernelRfl
namespace Go.Proofs.YtecbefokpbbahaaGreatDoor
open Go
theorem mendKnown_number : Tryz.prog.funcNamed "larder/larderlaw13.MendKnown" = some 4 := by kernel_rfl
end Go.Proofs.YtecbefokpbbahaaGreatDoor
