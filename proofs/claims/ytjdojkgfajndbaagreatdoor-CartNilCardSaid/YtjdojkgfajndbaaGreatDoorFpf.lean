-- a closed fact of the row, alone
import Derived.Test.YtjdojkgfajndbaaGreatDoorRows
import Derived.JoinedOf
import GoSem.ClaimSeven
import Derived.KernelRfl
namespace Go.Proofs.YtjdojkgfajndbaaGreatDoor
open Go
theorem fact_lifted : (Rows.cartNilRow.lifted == Tryz.prog.liftsFinal) = true := by kernel_rfl
end Go.Proofs.YtjdojkgfajndbaaGreatDoor
