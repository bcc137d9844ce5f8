-- a closed fact of the row, alone
import Derived.Test.YtnaapkoladiomaaGreatDoorFpa
import Derived.Test.YtnaapkoladiomaaGreatDoorFpb
import Derived.Test.YtnaapkoladiomaaGreatDoorFpc
import Derived.Test.YtnaapkoladiomaaGreatDoorGG
import Derived.Test.YtnaapkoladiomaaGreatDoorFpe
import Derived.Test.YtnaapkoladiomaaGreatDoorFMendChecksa
import Derived.Test.YtnaapkoladiomaaGreatDoorFMendChecksb
import Derived.Test.YtnaapkoladiomaaGreatDoorFMendChecksc
import Derived.Test.YtnaapkoladiomaaGreatDoorFMendChecksd
import Derived.Test.YtnaapkoladiomaaGreatDoorFMendCheckse
import Derived.Test.YtnaapkoladiomaaGreatDoorFMendChecksf
import Derived.JoinedOf
import Derived.KernelRfl
namespace Go.Proofs.YtnaapkoladiomaaGreatDoor
open Go
theorem mendChecks_joined : joinedFacts Tryz.prog 4 Tryz.f4 Rows.mendChecksSpec Rows.mendChecksRow = true := by
  have hk : (Rows.mendChecksRow.plainKeys == Tryz.prog.plainKeys) = true := by rw [fact_plainKeys]; rfl
  unfold joinedFacts
  simp only [Bool.and_eq_true]
  repeat' with_reducible refine And.intro ?_ ?_
  all_goals first | with_reducible exact fact_laidOut | with_reducible exact fact_mapsRowed | with_reducible exact fact_stopsHeard | with_reducible exact fact_mayEnter | with_reducible exact fact_lifted | with_reducible exact fact_make | with_reducible exact hk | with_reducible exact mendChecks_inPlace | with_reducible exact mendChecks_unfollowed | with_reducible exact mendChecks_recurses | with_reducible exact mendChecks_named | kernel_rfl

end Go.Proofs.YtnaapkoladiomaaGreatDoor
