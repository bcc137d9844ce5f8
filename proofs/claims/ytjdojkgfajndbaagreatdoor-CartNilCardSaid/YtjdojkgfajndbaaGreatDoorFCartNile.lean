-- a closed fact of the row, alone
import Derived.Test.YtjdojkgfajndbaaGreatDoorRows
import Derived.JoinedOf
import GoSem.ClaimSeven
import Derived.KernelRfl
namespace Go.Proofs.YtjdojkgfajndbaaGreatDoor
open Go
theorem cartNil_number : Tryz.prog.funcNamed "larder/larderlaw14.CartNil" = some 3 := by kernel_rfl
end Go.Proofs.YtjdojkgfajndbaaGreatDoor
