-- a closed fact of the row, alone
import Derived.Test.YtllpbdkjnkikgaaGreatDoorFpa
import Derived.Test.YtllpbdkjnkikgaaGreatDoorFpb
import Derived.Test.YtllpbdkjnkikgaaGreatDoorFpc
import Derived.Test.YtllpbdkjnkikgaaGreatDoorFpd
import Derived.Test.YtllpbdkjnkikgaaGreatDoorFpe
import Derived.Test.YtllpbdkjnkikgaaGreatDoorFpf
import Derived.Test.YtllpbdkjnkikgaaGreatDoorFpg
import Derived.Test.YtllpbdkjnkikgaaGreatDoorFph
import Derived.Test.YtllpbdkjnkikgaaGreatDoorFpi
import Derived.Test.YtllpbdkjnkikgaaGreatDoorFMendNila
import Derived.Test.YtllpbdkjnkikgaaGreatDoorFMendNilb
import Derived.Test.YtllpbdkjnkikgaaGreatDoorFMendNilc
import Derived.Test.YtllpbdkjnkikgaaGreatDoorFMendNild
import Derived.Test.YtllpbdkjnkikgaaGreatDoorFMendNile
import Derived.Test.YtllpbdkjnkikgaaGreatDoorFMendNilf
import Derived.JoinedOf
import Derived.KernelRfl
namespace Go.Proofs.YtllpbdkjnkikgaaGreatDoor
open Go
theorem mendNil_joined : joinedFacts Tryz.prog 5 Tryz.f5 Rows.mendNilSpec Rows.mendNilRow = true := by
  have hk : (Rows.mendNilRow.plainKeys == Tryz.prog.plainKeys) = true := by rw [fact_plainKeys]; rfl
  unfold joinedFacts
  simp only [Bool.and_eq_true]
  repeat' with_reducible refine And.intro ?_ ?_
  all_goals first | with_reducible exact fact_laidOut | with_reducible exact fact_mapsRowed | with_reducible exact fact_stopsHeard | with_reducible exact fact_mayEnter | with_reducible exact fact_lifted | with_reducible exact fact_make | with_reducible exact hk | with_reducible exact mendNil_inPlace | with_reducible exact mendNil_unfollowed | with_reducible exact mendNil_recurses | with_reducible exact mendNil_named | kernel_rfl

end Go.Proofs.YtllpbdkjnkikgaaGreatDoor
