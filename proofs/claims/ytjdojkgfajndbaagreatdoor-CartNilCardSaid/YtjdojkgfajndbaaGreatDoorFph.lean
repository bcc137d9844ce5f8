-- a closed fact of the row, alone
import Derived.Test.YtjdojkgfajndbaaGreatDoorRows
import Derived.JoinedOf
import GoSem.ClaimSeven
import Derived.KernelRfl
namespace Go.Proofs.YtjdojkgfajndbaaGreatDoor
open Go
theorem fact_main : Tryz.prog.mainIs = some (true, "7ae158b8359d52dcef57104ba782f4fbff7a15d8f93346f8f4fd5adb13023b64".toList) := by kernel_rfl
end Go.Proofs.YtjdojkgfajndbaaGreatDoor
