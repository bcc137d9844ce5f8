-- a closed fact of the row, alone
import Derived.Test.YtecbefokpbbahaaGreatDoorFpa
import Derived.Test.YtecbefokpbbahaaGreatDoorFpb
import Derived.Test.YtecbefokpbbahaaGreatDoorFpc
import Derived.Test.YtecbefokpbbahaaGreatDoorFpd
import Derived.Test.YtecbefokpbbahaaGreatDoorFpe
import Derived.Test.YtecbefokpbbahaaGreatDoorFpf
import Derived.Test.YtecbefokpbbahaaGreatDoorFpg
import Derived.Test.YtecbefokpbbahaaGreatDoorFph
import Derived.Test.YtecbefokpbbahaaGreatDoorFpi
import Derived.Test.YtecbefokpbbahaaGreatDoorFMendKnowna
import Derived.Test.YtecbefokpbbahaaGreatDoorFMendKnownb
import Derived.Test.YtecbefokpbbahaaGreatDoorFMendKnownc
import Derived.Test.YtecbefokpbbahaaGreatDoorFMendKnownd
import Derived.Test.YtecbefokpbbahaaGreatDoorFMendKnowne
import Derived.Test.YtecbefokpbbahaaGreatDoorFMendKnownf
import Derived.JoinedOf
import Derived.KernelRfl
namespace Go.Proofs.YtecbefokpbbahaaGreatDoor
open Go
theorem mendKnown_joined : joinedFacts Tryz.prog 4 Tryz.f4 Rows.mendKnownSpec Rows.mendKnownRow = true := by
  have hk : (Rows.mendKnownRow.plainKeys == Tryz.prog.plainKeys) = true := by rw [fact_plainKeys]; rfl
  unfold joinedFacts
  simp only [Bool.and_eq_true]
  repeat' with_reducible refine And.intro ?_ ?_
  all_goals first | with_reducible exact fact_laidOut | with_reducible exact fact_mapsRowed | with_reducible exact fact_stopsHeard | with_reducible exact fact_mayEnter | with_reducible exact fact_lifted | with_reducible exact fact_make | with_reducible exact hk | with_reducible exact mendKnown_inPlace | with_reducible exact mendKnown_unfollowed | with_reducible exact mendKnown_recurses | with_reducible exact mendKnown_named | kernel_rfl

end Go.Proofs.YtecbefokpbbahaaGreatDoor
