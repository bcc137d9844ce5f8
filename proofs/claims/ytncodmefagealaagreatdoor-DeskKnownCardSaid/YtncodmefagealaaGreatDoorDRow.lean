/- DeskKnown is true. Condition: the package-level variables that the row lists start as the program's text lays them (the card ties them). The run itself: the step machine (Ev..), in pieces, evaluated by the kernel. -/
import Derived.Test.YtncodmefagealaaGreatDoorCards
import Derived.Test.YtncodmefagealaaGreatDoorDTie
import Derived.Test.YtncodmefagealaaGreatDoorDWalk
import Derived.Test.YtncodmefagealaaGreatDoorGWa
import Derived.Test.YtncodmefagealaaGreatDoorGWb
import Derived.Test.YtncodmefagealaaGreatDoorGWc
import Derived.LaidMore
import Derived.OpenShut
import Derived.Stop.Joined
import Derived.SevenTiedAt
import Derived.Test.YtncodmefagealaaGreatDoorJDeskKnown
namespace Go.Proofs.YtncodmefagealaaGreatDoor.K
open Go Go.ChangeShapes Go.WideShapes Go.ChangeAt Go.WideMaps Go.WideElems Go.RowKit
theorem own : ownKnob Tryz.prog.godebug = none := by kernel_rfl
theorem plain_eq : (Rows.deskKnownRow.laid.filter fun x => x.2.handleName?.isNone) = plainL := rfl
/-- A world that meets the condition. -/
theorem w_met (os : Os) (args : Array Value) : laidMetH Tryz.prog Rows.deskKnownRow.laid (wcW os args).memory := by
  refine laidMetH_of_parts ?_ (w_handle os args)
  rw [plain_eq]
  have e1 : (plainL.filter fun x => (plainL.map (·.1)).contains x.1) = plainL := List.filter_eq_self.2 fun x hx => List.contains_iff_mem.2 (List.mem_map.2 ⟨x, hx, rfl⟩)
  have e2 : (plainL.filter fun x => !(plainL.map (·.1)).contains x.1) = [] := List.filter_eq_nil_iff.2 fun x hx => by rw [List.contains_iff_mem.2 (List.mem_map.2 ⟨x, hx, rfl⟩)]; simp
  have h : laidMet Tryz.prog plainL (wlW os) := laidMet_layVars (w0 := whW os) (plainL.map (·.1)) [] (by rw [e1]; rfl) (by rw [e1]; exact w_fits os) (by rw [e1]; exact w_ifaces os) (by rw [e2]; exact LaidIn.none)
  exact h.of_heap (by simp [wcW, World.memory, World.forCall, Input.heap])

set_option maxRecDepth 100000 in
theorem lifted (os : Os) (started : os.Started) (H : Type) (enc : TypeId × Value → H) :
    ReturnsInHanded {} Tryz.checked os 3 .any (fun w args => (Rows.deskKnownSpec.pre enc Tryz.prog Tryz.f3 [] false w args ∧ laidMetH Tryz.prog Rows.deskKnownRow.laid w) ∧ sizedMet enc Tryz.prog Tryz.f3 (OpenSpec.ofChange Rows.deskKnownSpec) false w args)
      (Rows.deskKnownSpec.post enc Tryz.prog Tryz.f3 false true false false) := by
  refine returnsInHanded_of_change_and (C := Tryz.checked) (X := fun w _ => laidMetH Tryz.prog Rows.deskKnownRow.laid w) (fun _ _ _ hh h => h.of_heap hh) own started (by kernel_rfl) Tryz.func3
    (ChangeSpec.witness_shaped (enc := enc) (C := Tryz.checked) (os := os) (X := fun w _ => laidMetH Tryz.prog Rows.deskKnownRow.laid w) false (wlW os) #[] 8 (wlW_os os) (World.shaped_of_ZipB (w_zip os) (w_rest os)) (w_ok os) (w_pre enc os) (w_sized enc os) (w_met os _)) ?_
  intro W base args ds gs before hval0 hW _ _ hL _
  have hW' := hW
  obtain ⟨p, q, hA0, hV, rfl, hfz, hnd⟩ := hW
  have hA : DataW.TrodAll enc Tryz.prog W 0 (fun _ => true) true Tryz.f3.params.toList args.toList ds p := hA0
  rw [Tryz.params3] at hA
  obtain ⟨rfl, rfl, rfl⟩ := trodAll_none hA
  obtain ⟨rfl, rfl⟩ := trodVars_none hV
  clear hA0 hval0
  refine (known_walk W hL).mono fun e W' ⟨he, bel⟩ => ?_
  subst he
  exact ⟨_, rfl, _, _, _, [], _, [], hW', trodAll_mk1 (shut_bool Tryz.underlying4 _), trodAll_mk0, rfl, bel.frame _, fun h => by cases h⟩

theorem row_holds : Rows.DeskKnownSaid :=
  OpenClaim.holds_of_wide 3 Tryz.f3 rfl rfl rfl rfl rfl rfl rfl ⟨rfl, rfl, rfl, rfl, rfl⟩ rfl rfl rfl rfl rfl deskKnown_number Tryz.func3 deskKnown_joined
    (of_decide_eq_true (by kernel_rfl)) (by unfold Func.isWrapper; first | (rw [if_pos (by decide +kernel)]; kernel_rfl) | (rw [if_neg (by decide +kernel)]; exact ⟨rfl, rfl⟩))
    (fun os started H enc _ => lifted os started H enc)

def kindsD : List LaidKind := [.sentinel, .data, .data, .sentinel, .sentinel, .pinned, .data, .sentinel, .sentinel, .sentinel, .sentinel, .data, .data, .data, .sentinel, .data, .handle, .sentinel, .sentinel, .sentinel, .sentinel, .sentinel, .sentinel, .sentinel, .sentinel, .sentinel, .sentinel, .sentinel, .sentinel, .sentinel, .sentinel, .sentinel, .sentinel, .sentinel, .sentinel, .sentinel]
set_option maxRecDepth 100000 in
theorem card_holds : Rows.DeskKnownCardSaid :=
  Claim7.holds_tied_plain_at .later [] kindsD true (true, "1a3c9dcccd2f87006e28f613febd0afebc779f13860d69864671ce99d86976bf") true
    row_holds (fun _ h => by cases h) (by kernel_rfl) (fun _ h => by cases h) tie_row rfl ⟨rfl, rfl⟩ fact_main rfl
    (fun f fn hf hfn => by
      obtain rfl : f = 3 := Option.some.inj (deskKnown_number.symm.trans hf) |>.symm
      obtain rfl : fn = Tryz.f3 := (Option.some.inj (Tryz.func3.symm.trans hfn)).symm
      exact ⟨fact_looks, fun j t ht => by
        rw [Tryz.params3] at ht
        simp at ht⟩)
    deskKnown_goes
end Go.Proofs.YtncodmefagealaaGreatDoor.K
namespace Go.Proofs.YtncodmefagealaaGreatDoor
theorem deskKnown_holds : Rows.DeskKnownCardSaid := K.card_holds
#print axioms deskKnown_holds
end Go.Proofs.YtncodmefagealaaGreatDoor
