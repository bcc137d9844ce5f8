-- a closed fact of the row, alone
import Derived.Test.YthadnmpneonmfaaGreatDoorFpa
import Derived.Test.YthadnmpneonmfaaGreatDoorFpb
import Derived.Test.YthadnmpneonmfaaGreatDoorFpc
import Derived.Test.YthadnmpneonmfaaGreatDoorFpd
import Derived.Test.YthadnmpneonmfaaGreatDoorFpe
import Derived.Test.YthadnmpneonmfaaGreatDoorFpf
import Derived.Test.YthadnmpneonmfaaGreatDoorFpg
import Derived.Test.YthadnmpneonmfaaGreatDoorFph
import Derived.Test.YthadnmpneonmfaaGreatDoorFpi
import Derived.Test.YthadnmpneonmfaaGreatDoorFTillNila
import Derived.Test.YthadnmpneonmfaaGreatDoorFTillNilb
import Derived.Test.YthadnmpneonmfaaGreatDoorFTillNilc
import Derived.Test.YthadnmpneonmfaaGreatDoorFTillNild
import Derived.Test.YthadnmpneonmfaaGreatDoorFTillNile
import Derived.Test.YthadnmpneonmfaaGreatDoorFTillNilf
import Derived.JoinedOf
import Derived.KernelRfl
namespace Go.Proofs.YthadnmpneonmfaaGreatDoor
open Go
theorem tillNil_joined : joinedFacts Tryz.prog 3 Tryz.f3 Rows.tillNilSpec Rows.tillNilRow = true := by
  have hk : (Rows.tillNilRow.plainKeys == Tryz.prog.plainKeys) = true := by rw [fact_plainKeys]; rfl
  unfold joinedFacts
  simp only [Bool.and_eq_true]
  repeat' with_reducible refine And.intro ?_ ?_
  all_goals first | with_reducible exact fact_laidOut | with_reducible exact fact_mapsRowed | with_reducible exact fact_stopsHeard | with_reducible exact fact_mayEnter | with_reducible exact fact_lifted | with_reducible exact fact_make | with_reducible exact hk | with_reducible exact tillNil_inPlace | with_reducible exact tillNil_unfollowed | with_reducible exact tillNil_recurses | with_reducible exact tillNil_named | kernel_rfl

end Go.Proofs.YthadnmpneonmfaaGreatDoor
