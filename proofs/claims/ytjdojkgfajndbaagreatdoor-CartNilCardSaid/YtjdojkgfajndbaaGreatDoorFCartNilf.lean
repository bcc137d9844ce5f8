-- a closed fact of the row, alone
import Derived.Test.YtjdojkgfajndbaaGreatDoorRows
import Derived.JoinedOf
import GoSem.ClaimSeven
import Derived.KernelRfl
namespace Go.Proofs.YtjdojkgfajndbaaGreatDoor
open Go
theorem cartNil_goes : false = Rows.cartNilRow.goesBy Tryz.prog := by kernel_rfl
end Go.Proofs.YtjdojkgfajndbaaGreatDoor
