-- a closed fact of the row, alone
import Derived.Test.YtncodmefagealaaGreatDoorGFa
import Derived.Test.YtncodmefagealaaGreatDoorGFc
import Derived.Test.YtncodmefagealaaGreatDoorGFb
import Derived.Test.YtncodmefagealaaGreatDoorFpe
import Derived.Test.YtncodmefagealaaGreatDoorGCc
import Derived.JoinedOf
import Derived.KernelRfl
namespace Go.Proofs.YtncodmefagealaaGreatDoor
open Go
theorem deskKnown_joined : joinedFacts Tryz.prog 3 Tryz.f3 Rows.deskKnownSpec Rows.deskKnownRow = true := by
  have hk : (Rows.deskKnownRow.plainKeys == Tryz.prog.plainKeys) = true := by rw [fact_plainKeys]; rfl
  unfold joinedFacts
  simp only [Bool.and_eq_true]
  repeat' with_reducible refine And.intro ?_ ?_
  all_goals first | with_reducible exact fact_laidOut | with_reducible exact fact_mapsRowed | with_reducible exact fact_stopsHeard | with_reducible exact fact_mayEnter | with_reducible exact fact_lifted | with_reducible exact fact_make | with_reducible exact hk | with_reducible exact deskKnown_inPlace | with_reducible exact deskKnown_unfollowed | with_reducible exact deskKnown_recurses | with_reducible exact deskKnown_named | kernel_rfl

end Go.Proofs.YtncodmefagealaaGreatDoor
