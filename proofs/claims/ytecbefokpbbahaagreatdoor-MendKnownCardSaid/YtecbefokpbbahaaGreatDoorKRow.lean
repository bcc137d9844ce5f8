/- MendKnown is true. Condition: the two package-level variables start as the program's text lays them (the card ties them). The run itself: the step machine (Ev..), in seven pieces, evaluated by the kernel. -/
import Derived.Test.YtecbefokpbbahaaGreatDoorCards
import Derived.Test.YtecbefokpbbahaaGreatDoorTie
import Derived.Test.YtecbefokpbbahaaGreatDoorKLaid
import Derived.Test.YtecbefokpbbahaaGreatDoorEvP1
import Derived.Test.YtecbefokpbbahaaGreatDoorEvP2
import Derived.Test.YtecbefokpbbahaaGreatDoorEvP3
import Derived.Test.YtecbefokpbbahaaGreatDoorEvP4
import Derived.Test.YtecbefokpbbahaaGreatDoorEvP5
import Derived.Test.YtecbefokpbbahaaGreatDoorEvP6
import Derived.Test.YtecbefokpbbahaaGreatDoorEvP7
import Derived.LaidMore
import Derived.OpenShut
import Derived.Stop.Joined
import Derived.SevenTiedAt
import Derived.Test.YtecbefokpbbahaaGreatDoorJMendKnown
namespace Go.Proofs.YtecbefokpbbahaaGreatDoor.K
open Go Go.ChangeShapes Go.WideShapes Go.ChangeAt Go.WideMaps Go.WideElems Go.RowKit

section
open Go.Ev
theorem begin_h (e0 e1 : Nat) : (s0 e0 e1).h = ⟨layT [(0, .cells e0 false false (V.int .i64 (-1) :: (List.replicate 128 (0 : Int)).map (V.int .u8)).length [] (rowT (V.int .i64 (-1) :: (List.replicate 128 (0 : Int)).map (V.int .u8)))), (1, .cells e1 false false (tabN.map (V.int .u32)).length [] (rowT (tabN.map (V.int .u32))))], 1000⟩ := by kernel_rfl
theorem begin_s (e0 e1 : Nat) : callK Tryz.prog 4 [] false [] (s0 e0 e1).h = some (s0 e0 e1) := by kernel_rfl
theorem end_v (e0 e1 : Nat) : Ev.results Tryz.prog 4 (s7 e0 e1).top.tm (s7 e0 e1).h = some (.bool true) := by kernel_rfl
theorem known_walk (W : World) (hL : laidMetH Tryz.prog Rows.mendKnownRow.laid W) : Calls Tryz.prog 4 #[] W fun e W' => e = .returned (.bool true) ∧ Below W.heap.size W W' := by
  obtain ⟨⟨c0, e0, f0, h0, g0⟩, c1, e1, f1, h1, g1⟩ := laid_cells hL
  have hr : HR Tryz.prog W r0 (s0 e0 e1).h W := by
    rw [begin_h]
    exact h0_ok h0 h1 (by rw [g0]; exact .cons _ _ _ _ (.int _ _) (vrs_ints _ _)) (by rw [g1]; exact vrs_ints _ _)
  refine (calls_of (v := .bool true) fun tail => ⟨s7 e0 e1,
    (((((((To.begin hr (begin_s e0 e1)).piece (p1 e0 e1)).piece (p2 e0 e1)).piece (p3 e0 e1)).piece (p4 e0 e1)).piece (p5 e0 e1)).piece (p6 e0 e1)).piece (p7 e0 e1), rfl, rfl, rfl, rfl, rfl, end_v e0 e1⟩).mono ?_
  rintro e W' ⟨r, x, rfl, hv, hb⟩
  exact ⟨by rw [hv.bool_inv], hb⟩
end

theorem own : ownKnob Tryz.prog.godebug = none := by kernel_rfl

/-- The door's own heap meets the condition. -/
theorem door_met (os : Os) (args : Array Value) : laidMetH Tryz.prog Rows.mendKnownRow.laid ((World.doorLaid Tryz.prog 400 os).forCall (fun _ _ => 0) ⟨#[], args, []⟩).memory :=
  laidMetH_of_parts3 (fuel := 8) (laidMet_of_run' 8 (by kernel_rfl) (by kernel_rfl)) (by kernel_rfl) (by kernel_rfl)

set_option maxRecDepth 100000 in
theorem lifted (os : Os) (started : os.Started) (H : Type) (enc : TypeId × Value → H) :
    ReturnsInHanded {} Tryz.checked os 4 .any (fun w args => (Rows.mendKnownSpec.pre enc Tryz.prog Tryz.f4 [] false w args ∧ laidMetH Tryz.prog Rows.mendKnownRow.laid w) ∧ sizedMet enc Tryz.prog Tryz.f4 (OpenSpec.ofChange Rows.mendKnownSpec) false w args)
      (Rows.mendKnownSpec.post enc Tryz.prog Tryz.f4 false true false false) := by
  refine returnsInHanded_of_change_and (C := Tryz.checked) (X := fun w _ => laidMetH Tryz.prog Rows.mendKnownRow.laid w) (fun _ _ _ hh h => h.of_heap hh) own started (by kernel_rfl) Tryz.func4
    (ChangeSpec.witness_shaped (enc := enc) (C := Tryz.checked) (os := os) (X := fun w _ => laidMetH Tryz.prog Rows.mendKnownRow.laid w) false (World.doorLaid Tryz.prog 400 os) #[] 8 rfl (World.shaped_of_RefB (by kernel_rfl) (by kernel_rfl)) (by kernel_rfl) (by kernel_rfl) (by kernel_rfl) (door_met os _)) ?_
  intro W base args ds gs before hval0 hW _ _ hL _
  have hW' := hW
  obtain ⟨p, q, hA0, hV, rfl, hfz, hnd⟩ := hW
  have hA : DataW.TrodAll enc Tryz.prog W 0 (fun _ => true) true Tryz.f4.params.toList args.toList ds p := hA0
  rw [Tryz.params4] at hA
  obtain ⟨rfl, rfl, rfl⟩ := trodAll_none hA
  obtain ⟨rfl, rfl⟩ := trodVars_none hV
  clear hA0 hval0
  refine (known_walk W hL).mono fun e W' ⟨he, bel⟩ => ?_
  subst he
  exact ⟨_, rfl, _, _, _, [], _, [], hW', trodAll_mk1 (shut_bool Tryz.underlying4 _), trodAll_mk0, rfl, bel.frame _, fun h => by cases h⟩

theorem row_holds : Rows.MendKnownSaid :=
  OpenClaim.holds_of_wide 4 Tryz.f4 rfl rfl rfl rfl rfl rfl rfl ⟨rfl, rfl, rfl, rfl, rfl⟩ rfl rfl rfl rfl rfl mendKnown_number Tryz.func4 mendKnown_joined
    (of_decide_eq_true (by kernel_rfl)) (by unfold Func.isWrapper; first | (rw [if_pos (by decide +kernel)]; kernel_rfl) | (rw [if_neg (by decide +kernel)]; exact ⟨rfl, rfl⟩))
    (fun os started H enc _ => lifted os started H enc)

theorem card_holds : Rows.MendKnownCardSaid :=
  Claim7.holds_tied_plain_at .later [] [.data, .data] true (true, "ff09a54d98e886fee12f7cc86a093c4b905a7341d3d1e01f0ec437d700406e36") true
    row_holds (fun _ h => by cases h) (by kernel_rfl) (fun _ h => by cases h) mendKnown_row_tie rfl ⟨rfl, rfl⟩ fact_main rfl
    (fun f fn hf hfn => by
      obtain rfl : f = 4 := Option.some.inj (mendKnown_number.symm.trans hf) |>.symm
      obtain rfl : fn = Tryz.f4 := (Option.some.inj (Tryz.func4.symm.trans hfn)).symm
      exact ⟨fact_looks, fun j t ht => by
        rw [Tryz.params4] at ht
        simp at ht⟩)
    mendKnown_goes
end Go.Proofs.YtecbefokpbbahaaGreatDoor.K
namespace Go.Proofs.YtecbefokpbbahaaGreatDoor
theorem mendKnown_holds : Rows.MendKnownCardSaid := K.card_holds
#print axioms mendKnown_holds
end Go.Proofs.YtecbefokpbbahaaGreatDoor
