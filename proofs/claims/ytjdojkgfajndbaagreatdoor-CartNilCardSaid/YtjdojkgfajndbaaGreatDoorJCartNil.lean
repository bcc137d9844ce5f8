-- a closed fact of the row, alone
import Derived.Test.YtjdojkgfajndbaaGreatDoorFpa
import Derived.Test.YtjdojkgfajndbaaGreatDoorFpb
import Derived.Test.YtjdojkgfajndbaaGreatDoorFpc
import Derived.Test.YtjdojkgfajndbaaGreatDoorFpd
import Derived.Test.YtjdojkgfajndbaaGreatDoorFpe
import Derived.Test.YtjdojkgfajndbaaGreatDoorFpf
import Derived.Test.YtjdojkgfajndbaaGreatDoorFpg
import Derived.Test.YtjdojkgfajndbaaGreatDoorFph
import Derived.Test.YtjdojkgfajndbaaGreatDoorFpi
import Derived.Test.YtjdojkgfajndbaaGreatDoorFCartNila
import Derived.Test.YtjdojkgfajndbaaGreatDoorFCartNilb
import Derived.Test.YtjdojkgfajndbaaGreatDoorFCartNilc
import Derived.Test.YtjdojkgfajndbaaGreatDoorFCartNild
import Derived.Test.YtjdojkgfajndbaaGreatDoorFCartNile
import Derived.Test.YtjdojkgfajndbaaGreatDoorFCartNilf
import Derived.JoinedOf
import Derived.KernelRfl
namespace Go.Proofs.YtjdojkgfajndbaaGreatDoor
open Go
theorem cartNil_joined : joinedFacts Tryz.prog 3 Tryz.f3 Rows.cartNilSpec Rows.cartNilRow = true := by
  have hk : (Rows.cartNilRow.plainKeys == Tryz.prog.plainKeys) = true := by rw [fact_plainKeys]; rfl
  unfold joinedFacts
  simp only [Bool.and_eq_true]
  repeat' with_reducible refine And.intro ?_ ?_
  all_goals first | with_reducible exact fact_laidOut | with_reducible exact fact_mapsRowed | with_reducible exact fact_stopsHeard | with_reducible exact fact_mayEnter | with_reducible exact fact_lifted | with_reducible exact fact_make | with_reducible exact hk | with_reducible exact cartNil_inPlace | with_reducible exact cartNil_unfollowed | with_reducible exact cartNil_recurses | with_reducible exact cartNil_named | kernel_rfl

end Go.Proofs.YtjdojkgfajndbaaGreatDoor
