/- Contracts of functions of the program, walked, and plain laws. -/
import Derived.Test.YtncodmefagealaaGreatDoorGCa
import Derived.Test.YtncodmefagealaaGreatDoorGCb
import Derived.Test.YtncodmefagealaaGreatDoorRows
import Derived.JoinedOf
import GoSem.ClaimSeven
import Derived.KernelRfl
/- The facts of the row that hang on the functions that the call can come to. -/
namespace Go.Proofs.YtncodmefagealaaGreatDoor.K
open Go Go.Ev
set_option maxRecDepth 100000 in
theorem clo_ok : ∀ f ∈ cloL, (match cloT.get f with | some l => l | none => []) = leadsAt Tryz.prog f := by
  have h : cloL.all (fun f => (match cloT.get f with | some l => l | none => []) == leadsAt Tryz.prog f) = true := by
    rw [clo_parts]
    simp only [List.all_append, Bool.and_eq_true]
    exact ⟨clo_t0, clo_t1, clo_t2, clo_t3, clo_t4⟩
  intro f hf
  exact eq_of_beq (List.all_eq_true.1 h f hf)
set_option maxRecDepth 100000 in
theorem clo_is : Tryz.prog.closure 3 = cloL := by
  unfold Program.closure
  rw [clo_fuel, cloE_eq (tbl := cloT) _ _ _ .e (fun f => by rw [T.get_e]; rfl) (by rw [clo_val]; exact clo_ok), clo_val]
theorem clo_inPlace : Tryz.prog.inPlace 3 = Rows.deskKnownRow.inPlace := by
  unfold Program.inPlace
  rw [clo_is, clo_parts]
  simp only [List.filterMap_append, clo_i0, clo_i1, clo_i2, clo_i3, clo_i4]
  rfl
theorem clo_unfollowed : Tryz.prog.unfollowed 3 = true := by
  unfold Program.unfollowed
  rw [clo_is]
  exact List.any_eq_true.2 ⟨243, by simpa using clo_mem, clo_un⟩
theorem clo_recurses : Tryz.prog.recurses 3 = true := by
  unfold Program.recurses
  rw [clo_unfollowed]; rfl
theorem clo_named : Tryz.prog.varsNamed 3 = Rows.deskKnownRow.named := by
  unfold Program.varsNamed
  rw [clo_is, clo_parts]
  simp only [List.filterMap_append, List.flatMap_append, clo_g0, clo_g1, clo_g2, clo_g3, clo_g4, clo_r0, clo_r1, clo_r2, clo_r3, clo_r4]
  kernel_rfl
theorem clo_goes : Tryz.prog.goes 3 = false := by
  unfold Program.goes
  rw [clo_is, clo_go, clo_parts]
  simp only [List.any_append, clo_s0, clo_s1, clo_s2, clo_s3, clo_s4, Bool.or_self, Bool.and_false]
end Go.Proofs.YtncodmefagealaaGreatDoor.K
-- a closed fact of the row, alone
namespace Go.Proofs.YtncodmefagealaaGreatDoor
open Go
theorem deskKnown_number : Tryz.prog.funcNamed "larder/larderlaw18.DeskKnown" = some 3 := by kernel_rfl
end Go.Proofs.YtncodmefagealaaGreatDoor
/- The row's facts of its closure. -/
namespace Go.Proofs.YtncodmefagealaaGreatDoor
open Go
theorem deskKnown_inPlace : (Rows.deskKnownRow.inPlace == Tryz.prog.inPlace 3) = true := by rw [K.clo_inPlace]; exact beq_self_eq_true _
theorem deskKnown_unfollowed : (Rows.deskKnownRow.unfollowed == Tryz.prog.unfollowed 3) = true := by rw [K.clo_unfollowed]; rfl
theorem deskKnown_recurses : (Rows.deskKnownRow.recurses == Tryz.prog.recurses 3) = true := by rw [K.clo_recurses]; rfl
theorem deskKnown_named : (Rows.deskKnownRow.named == Tryz.prog.varsNamed 3) = true := by rw [K.clo_named]; exact beq_self_eq_true _
theorem deskKnown_goes : false = Rows.deskKnownRow.goesBy Tryz.prog := by
  have h : Tryz.prog.goesFrom Rows.deskKnownRow.func = false := by
    unfold Program.goesFrom
    rw [show Rows.deskKnownRow.func = "larder/larderlaw18.DeskKnown" from rfl, deskKnown_number]
    rw [Option.any_some]
    exact K.clo_goes
  unfold OpenClaim.goesBy Program.goesAt
  rw [h]; rfl
end Go.Proofs.YtncodmefagealaaGreatDoor
