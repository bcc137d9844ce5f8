-- a closed fact of the row, alone
import Derived.Test.YtaokjpbgdehhiaaGreatDoorFpa
import Derived.Test.YtaokjpbgdehhiaaGreatDoorFpb
import Derived.Test.YtaokjpbgdehhiaaGreatDoorFpc
import Derived.Test.YtaokjpbgdehhiaaGreatDoorFpd
import Derived.Test.YtaokjpbgdehhiaaGreatDoorFpe
import Derived.Test.YtaokjpbgdehhiaaGreatDoorFpf
import Derived.Test.YtaokjpbgdehhiaaGreatDoorFpg
import Derived.Test.YtaokjpbgdehhiaaGreatDoorFph
import Derived.Test.YtaokjpbgdehhiaaGreatDoorFpi
import Derived.Test.YtaokjpbgdehhiaaGreatDoorFMendFulla
import Derived.Test.YtaokjpbgdehhiaaGreatDoorFMendFullb
import Derived.Test.YtaokjpbgdehhiaaGreatDoorFMendFullc
import Derived.Test.YtaokjpbgdehhiaaGreatDoorFMendFulld
import Derived.Test.YtaokjpbgdehhiaaGreatDoorFMendFulle
import Derived.Test.YtaokjpbgdehhiaaGreatDoorFMendFullf
import Derived.JoinedOf
import Derived.KernelRfl
namespace Go.Proofs.YtaokjpbgdehhiaaGreatDoor
open Go
theorem mendFull_joined : joinedFacts Tryz.prog 3 Tryz.f3 Rows.mendFullSpec Rows.mendFullRow = true := by
  have hk : (Rows.mendFullRow.plainKeys == Tryz.prog.plainKeys) = true := by rw [fact_plainKeys]; rfl
  unfold joinedFacts
  simp only [Bool.and_eq_true]
  repeat' with_reducible refine And.intro ?_ ?_
  all_goals first | with_reducible exact fact_laidOut | with_reducible exact fact_mapsRowed | with_reducible exact fact_stopsHeard | with_reducible exact fact_mayEnter | with_reducible exact fact_lifted | with_reducible exact fact_make | with_reducible exact hk | with_reducible exact mendFull_inPlace | with_reducible exact mendFull_unfollowed | with_reducible exact mendFull_recurses | with_reducible exact mendFull_named | kernel_rfl

end Go.Proofs.YtaokjpbgdehhiaaGreatDoor
