/- TillNil is true. Condition: the two package-level variables start as the program's text lays them (the card ties them). The run itself: the step machine (Ev..), in pieces, evaluated by the kernel; the arguments stand in it as unknown. -/
import Derived.Test.YthadnmpneonmfaaGreatDoorCards
import Derived.Test.YthadnmpneonmfaaGreatDoorTie
import Derived.Test.YthadnmpneonmfaaGreatDoorTLaid
import Derived.Test.YthadnmpneonmfaaGreatDoorEvP1
import Derived.Test.YthadnmpneonmfaaGreatDoorEvP2
import Derived.Test.YthadnmpneonmfaaGreatDoorEvP3
import Derived.Test.YthadnmpneonmfaaGreatDoorEvP4
import Derived.LaidMore
import Derived.OpenShut
import Derived.Stop.Joined
import Derived.SevenTiedAt
import Derived.Carry
import Derived.Test.YthadnmpneonmfaaGreatDoorJTillNil
namespace Go.Proofs.YthadnmpneonmfaaGreatDoor.K
open Go Go.ChangeShapes Go.WideShapes Go.ChangeAt Go.WideMaps Go.WideElems Go.RowKit

section
open Go.Ev
theorem begin_h (e0 e1 : Nat) : (s0 e0 e1).h = ⟨layT [(0, .cells e0 false false (V.int .i64 (-1) :: (List.replicate 128 (0 : Int)).map (V.int .u8)).length [] (rowT (V.int .i64 (-1) :: (List.replicate 128 (0 : Int)).map (V.int .u8)))), (2, .cells e1 false false (tabN.map (V.int .u32)).length [] (rowT (tabN.map (V.int .u32))))], 1000⟩ := by kernel_rfl
theorem begin_s (e0 e1 : Nat) : callK Tryz.prog 3 [.unk, .agg [.unk, .unk, .unk, .unk, .unk, .unk], .agg [.unk, .unk, .unk]] false [] (s0 e0 e1).h = some (s0 e0 e1) := by kernel_rfl
theorem end_v (e0 e1 : Nat) : Ev.results Tryz.prog 3 (s4 e0 e1).top.tm (s4 e0 e1).h = some (.bool true) := by kernel_rfl
theorem unks {r : Ren} : ∀ {n : Nat} (l : List Value), l.length = n → VRs r (List.replicate n .unk) l
  | 0, [], _ => .nil
  | _ + 1, x :: l, h => .cons _ _ _ _ (.unk x) (unks l (by simpa using h))
theorem till_walk (W : World) (hL : laidMetH Tryz.prog Rows.tillNilRow.laid W) (x : Value) (cs ds : Array Value) (h6 : cs.size = 6) (h3 : ds.size = 3) :
    Calls Tryz.prog 3 #[x, .agg cs, .agg ds] W fun e W' => e = .returned (.bool true) ∧ Below W.heap.size W W' := by
  obtain ⟨⟨c0, e0, f0, h0, g0⟩, c1, e1, f1, h1, g1⟩ := laid_cells hL
  have hr : HR Tryz.prog (base W) r0 (s0 e0 e1).h W := by
    rw [begin_h]
    exact h0_ok h0 h1 (by rw [g0]; exact .cons _ _ _ _ (.int _ _) (vrs_ints _ _)) (by rw [g1]; exact vrs_ints _ _)
  have hv : VRs r0 [.unk, .agg [.unk, .unk, .unk, .unk, .unk, .unk], .agg [.unk, .unk, .unk]] [x, .agg ⟨cs.toList⟩, .agg ⟨ds.toList⟩] :=
    .cons _ _ _ _ (.unk x) (.cons _ _ _ _ (.agg _ _ (unks (n := 6) _ (by simpa using h6))) (.cons _ _ _ _ (.agg _ _ (unks (n := 3) _ (by simpa using h3))) .nil))
  refine (calls_of (v := .bool true) (xs := [x, .agg ⟨cs.toList⟩, .agg ⟨ds.toList⟩]) fun tail => ⟨s4 e0 e1,
    ((((To.begin hr hv (begin_s e0 e1)).piece (p1 e0 e1)).piece (p2 e0 e1)).piece (p3 e0 e1)).piece (p4 e0 e1), rfl, rfl, rfl, rfl, rfl, end_v e0 e1⟩).mono ?_
  rintro e W' ⟨r, x, rfl, hv, hb⟩
  exact ⟨by rw [hv.bool_inv], hb⟩
end

theorem own : ownKnob Tryz.prog.godebug = none := by kernel_rfl
theorem laidOut' : laidOutB Tryz.prog = true := fact_laidOut
theorem cellsReq : Tryz.prog.cellsOf 24 = 6 := by kernel_rfl
theorem cellsCrash : Tryz.prog.cellsOf 27 = 3 := by kernel_rfl

/-- The door's own heap meets the condition. -/
theorem door_met (os : Os) (args : Array Value) : laidMetH Tryz.prog Rows.tillNilRow.laid ((World.doorLaid Tryz.prog 400 os).forCall (fun _ _ => 0) ⟨#[], args, []⟩).memory :=
  laidMetH_of_parts3 (fuel := 8) (laidMet_of_run' 8 (by kernel_rfl) (by kernel_rfl)) (by kernel_rfl) (by kernel_rfl)

set_option maxRecDepth 100000 in
theorem lifted (os : Os) (started : os.Started) (H : Type) (enc : TypeId × Value → H) :
    ReturnsInHanded {} Tryz.checked os 3 .any (fun w args => (Rows.tillNilSpec.pre enc Tryz.prog Tryz.f3 [] false w args ∧ laidMetH Tryz.prog Rows.tillNilRow.laid w) ∧ sizedMet enc Tryz.prog Tryz.f3 (OpenSpec.ofChange Rows.tillNilSpec) false w args)
      (Rows.tillNilSpec.post enc Tryz.prog Tryz.f3 false true false false) := by
  refine returnsInHanded_of_change_and (C := Tryz.checked) (X := fun w _ => laidMetH Tryz.prog Rows.tillNilRow.laid w) (fun _ _ _ hh h => h.of_heap hh) own started (by kernel_rfl) Tryz.func3
    (ChangeSpec.witness_shaped (enc := enc) (C := Tryz.checked) (os := os) (X := fun w _ => laidMetH Tryz.prog Rows.tillNilRow.laid w) false (World.doorLaid Tryz.prog 400 os) #[.int .i64 0, .agg #[.string ⟨#[]⟩, .int .i64 0, .slice none 0 0, .string ⟨#[]⟩, .int .i64 0, .int .i64 0], .agg #[.slice none 0 0, .int .i64 0, .int .i64 0]] 8 rfl (World.shaped_of_RefB (by kernel_rfl) (by kernel_rfl)) (by kernel_rfl) (by kernel_rfl) (by kernel_rfl) (door_met os _)) ?_
  intro W base args ds gs before hval0 hW _ _ hL _
  have hval : ∀ (j : Nat) t v, Tryz.f3.params[j]? = some t → args[j]? = some v → Value.okWide Tryz.prog W .any base t v := hval0
  have hW' := hW
  obtain ⟨p, q, hA0, hV, rfl, hfz, hnd⟩ := hW
  have hA : DataW.TrodAll enc Tryz.prog W 0 (fun _ => true) true Tryz.f3.params.toList args.toList ds p := hA0
  rw [Tryz.params3] at hA hval
  obtain ⟨v0, v1, v2, d0, d1, d2, p0, p1, p2, rfl, rfl, rfl, h0, h1, h2⟩ := trodAll_three hA
  obtain ⟨rfl, rfl⟩ := trodVars_none hV
  clear hA0 hval0
  simp only [List.append_nil] at hW'
  have hlt : ∀ x ∈ p0 ++ p1 ++ p2, x.block < W.heap.size := fun x hx => by simpa using hW'.lt x hx
  have hargs : ∀ W' : World, Below W.heap.size W W' → DataW.TrodAll enc Tryz.prog W' 0 (fun b => decide (b < W.heap.size)) true [3, 24, 27] [v0, v1, v2] [d0, d1, d2] (p0 ++ p1 ++ p2) := fun W' hb => by
    rw [List.append_assoc]
    exact trodAll_mk3 (Below.trod laidOut' (by kernel_rfl) (of_decide_eq_true (by kernel_rfl)) h0 hb (fun x hx => hlt x (List.mem_append.2 (.inl (List.mem_append.2 (.inl hx))))))
      (Below.trod laidOut' (by kernel_rfl) (of_decide_eq_true (by kernel_rfl)) h1 hb (fun x hx => hlt x (List.mem_append.2 (.inl (List.mem_append.2 (.inr hx))))))
      (Below.trod laidOut' (by kernel_rfl) (of_decide_eq_true (by kernel_rfl)) h2 hb (fun x hx => hlt x (List.mem_append.2 (.inr hx))))
  obtain ⟨cs, rfl, hc⟩ := okWide_struct Tryz.underlying24 (hval 1 24 v1 rfl rfl)
  obtain ⟨es, rfl, he⟩ := okWide_struct Tryz.underlying27 (hval 2 27 v2 rfl rfl)
  refine (till_walk W hL v0 cs es (hc.trans cellsReq) (he.trans cellsCrash)).mono fun e W' ⟨he, bel⟩ => ?_
  subst he
  exact ⟨_, rfl, _, _, _, [], p0 ++ p1 ++ p2, [], hW', trodAll_mk1 (shut_bool Tryz.underlying4 _), hargs W' bel, rfl, bel.frame _, fun h => by cases h⟩

theorem row_holds : Rows.TillNilSaid :=
  OpenClaim.holds_of_wide 3 Tryz.f3 rfl rfl rfl rfl rfl rfl rfl ⟨rfl, rfl, rfl, rfl, rfl⟩ rfl rfl rfl rfl rfl tillNil_number Tryz.func3 tillNil_joined
    (of_decide_eq_true (by kernel_rfl)) (by unfold Func.isWrapper; first | (rw [if_pos (by decide +kernel)]; kernel_rfl) | (rw [if_neg (by decide +kernel)]; exact ⟨rfl, rfl⟩))
    (fun os started H enc _ => lifted os started H enc)

theorem card_holds : Rows.TillNilCardSaid :=
  Claim7.holds_tied_plain_at .later [] [.data, .data] true (true, "4a964c1c530ffc0e8199ae296b7f50266b2c1016abce6f80f6d8de947aaca5ea") true
    row_holds (fun _ h => by cases h) (by kernel_rfl) (fun _ h => by cases h) tillNil_row_tie rfl ⟨rfl, rfl⟩ fact_main rfl
    (fun f fn hf hfn => by
      obtain rfl : f = 3 := Option.some.inj (tillNil_number.symm.trans hf) |>.symm
      obtain rfl : fn = Tryz.f3 := (Option.some.inj (Tryz.func3.symm.trans hfn)).symm
      exact ⟨fact_looks, fun j t ht => by
        rw [Tryz.params3] at ht
        match j, ht with
        | 0, ht => obtain rfl := Option.some.inj ht; exact of_decide_eq_true (by kernel_rfl)
        | 1, ht => obtain rfl := Option.some.inj ht; exact of_decide_eq_true (by kernel_rfl)
        | 2, ht => obtain rfl := Option.some.inj ht; exact of_decide_eq_true (by kernel_rfl)
        | j + 3, ht => simp at ht⟩)
    tillNil_goes
end Go.Proofs.YthadnmpneonmfaaGreatDoor.K
namespace Go.Proofs.YthadnmpneonmfaaGreatDoor
theorem tillNil_holds : Rows.TillNilCardSaid := K.card_holds
#print axioms tillNil_holds
end Go.Proofs.YthadnmpneonmfaaGreatDoor
