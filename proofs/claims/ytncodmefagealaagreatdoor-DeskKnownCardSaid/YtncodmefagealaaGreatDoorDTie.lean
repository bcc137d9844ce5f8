/- The tie of the row's listed variables to the program's text, out of its parts (2000 steps: 400 do not end the run of the 35 variables' initialisers). -/
import Derived.Test.YtncodmefagealaaGreatDoorDTb
import Derived.Test.YtncodmefagealaaGreatDoorDTf
import Derived.Test.YtncodmefagealaaGreatDoorDTg
import Derived.Test.YtncodmefagealaaGreatDoorGTb
import Derived.Test.YtncodmefagealaaGreatDoorGTc
import Derived.Test.YtncodmefagealaaGreatDoorGTd
import Derived.Test.YtncodmefagealaaGreatDoorDTn6
import Derived.Test.YtncodmefagealaaGreatDoorDTmA
import Derived.Test.YtncodmefagealaaGreatDoorDTmB
import Derived.Test.YtncodmefagealaaGreatDoorDTmC
import Derived.Test.YtncodmefagealaaGreatDoorDTrB
import Derived.Test.YtncodmefagealaaGreatDoorDTmD
import Derived.Test.YtncodmefagealaaGreatDoorDTmE
import Derived.Test.YtncodmefagealaaGreatDoorDTmF
import Derived.Test.YtncodmefagealaaGreatDoorGTf
import Derived.Test.YtncodmefagealaaGreatDoorDTm3
import Derived.Test.YtncodmefagealaaGreatDoorDTm4
import Derived.Test.YtncodmefagealaaGreatDoorDTm5
import Derived.Test.YtncodmefagealaaGreatDoorDTm6
namespace Go.Proofs.YtncodmefagealaaGreatDoor.K
open Go
theorem vn_append {P : Program} {g : Nat} {a b : List (String × DataW Unit)} (ha : varsNamedLaterB P g a = true) (hb : varsNamedLaterB P g b = true) : varsNamedLaterB P g (a ++ b) = true := by
  unfold varsNamedLaterB at ha hb ⊢
  cases hc : (P.funcs[g]?).bind (·.body) with
  | none => simp [hc] at ha
  | some code =>
    cases hs : code.laysInOrder [] with
    | none => simp [hc, hs] at ha
    | some stored =>
      simp only [hc, hs, Bool.and_eq_true, List.all_append] at ha hb ⊢
      exact ⟨ha.1, ha.2, hb.2⟩
theorem lr_append {P : Program} {w : World} {f : Nat} : ∀ {a b : List String} {x y : List (String × DataW Unit) × List MemPlace}, DataW.laidRun P w f a = some x → DataW.laidRun P w f b = some y → DataW.laidRun P w f (a ++ b) = some (x.1 ++ y.1, x.2 ++ y.2)
  | [], b, x, y, ha, hb => by
    simp only [DataW.laidRun, Option.some.injEq] at ha
    subst ha
    simpa using hb
  | n :: ns, b, x, y, ha, hb => by
    simp only [List.cons_append]
    unfold DataW.laidRun at ha ⊢
    split at ha
    · split at ha
      · split at ha
        · rename_i u z hu hz
          cases ha
          rw [lr_append hz hb]
          simp [*]
        · cases ha
      · cases ha
    · cases ha
theorem lr_app {P : Program} {w : World} {f : Nat} {a b : List (String × DataW Unit)} {p q : List MemPlace} (ha : DataW.laidRun P w f (a.map (·.1)) = some (a, p)) (hb : DataW.laidRun P w f (b.map (·.1)) = some (b, q)) :
    DataW.laidRun P w f ((a ++ b).map (·.1)) = some (a ++ b, p ++ q) := by
  rw [List.map_append]; exact lr_append ha hb
theorem rows_app {P : Program} {w : World} {p q : List MemPlace} (ha : laidRowsB P w p = true) (hb : laidRowsB P w q = true) : laidRowsB P w (p ++ q) = true := by
  unfold laidRowsB at *
  rw [List.all_append, ha, hb]; rfl
theorem tri {P : Program} {w : World} {o : Option (List (String × DataW Unit) × List MemPlace)} {c : List (String × DataW Unit)} {p : List MemPlace} (h : o.map (fun x => (x.1, x.2, laidRowsB P w x.2)) = some (c, p, true)) : o = some (c, p) ∧ laidRowsB P w p = true := by
  cases o with
  | none => cases h
  | some x =>
    simp only [Option.map_some, Option.some.injEq, Prod.mk.injEq] at h
    obtain ⟨h1, h2, h3⟩ := h
    subst h1 h2
    exact ⟨rfl, h3⟩
theorem tieL_split : tieL = (tieL.drop 0).take 5 ++ ((tieL.drop 5).take 5 ++ ((tieL.drop 10).take 5 ++ ((tieL.drop 15).take 5 ++ ((tieL.drop 20).take 5 ++ ((tieL.drop 25).take 5 ++ (tieL.drop 30).take 5))))) := by kernel_rfl
theorem tieP_split : tieP = (tieP.drop 0).take 2 ++ ((tieP.drop 2).take 1 ++ ((tieP.drop 3).take 2 ++ ((tieP.drop 5).take 5 ++ ((tieP.drop 10).take 2 ++ ((tieP.drop 12).take 1 ++ ((tieP.drop 13).take 2 ++ ((tieP.drop 15).take 5 ++ ((tieP.drop 20).take 5 ++ ((tieP.drop 25).take 5 ++ (tieP.drop 30).take 5))))))))) := by kernel_rfl
def psAll : List MemPlace := psA ++ (psB ++ (psC ++ (ps1 ++ (psD ++ (psE ++ (psF ++ (ps3 ++ (ps4 ++ (ps5 ++ ps6)))))))))
theorem psAll_nodup : nodupB (psAll.map MemPlace.codeOf) = true := by kernel_rfl
theorem tie_n : varsNamedLaterB Tryz.prog (varsId Tryz.prog) tieL = true := by
  rw [tieL_split]
  exact vn_append tie_n0 (vn_append tie_n1 (vn_append tie_n2 (vn_append tie_n3 (vn_append tie_n4 (vn_append tie_n5 tie_n6)))))
theorem tie_run (os : Os) (tape : Tape) : DataW.laidRun Tryz.prog (varsWorld Tryz.prog 2000 (varsId Tryz.prog) os tape).memory 8 (tieP.map (·.1)) = some (tieP, psAll) ∧ laidRowsB Tryz.prog (varsWorld Tryz.prog 2000 (varsId Tryz.prog) os tape).memory psAll = true := by
  have a := tri (tie_mA os tape)
  have c := tri (tie_mC os tape)
  have d := tri (tie_mD os tape)
  have f := tri (tie_mF os tape)
  have k1 := tri (tie_m1 os tape)
  have k3 := tri (tie_m3 os tape)
  have k4 := tri (tie_m4 os tape)
  have k5 := tri (tie_m5 os tape)
  have k6 := tri (tie_m6 os tape)
  have b := tie_mB os tape
  have e := tie_mE os tape
  have br : laidRowsB Tryz.prog (varsWorld Tryz.prog 2000 (varsId Tryz.prog) os tape).memory psB = true := tie_rB os tape
  have er : laidRowsB Tryz.prog (varsWorld Tryz.prog 2000 (varsId Tryz.prog) os tape).memory psE = true := tie_rE os tape
  constructor
  · have h := lr_app a.1 (lr_app b (lr_app c.1 (lr_app k1.1 (lr_app d.1 (lr_app e (lr_app f.1 (lr_app k3.1 (lr_app k4.1 (lr_app k5.1 k6.1)))))))))
    rw [← tieP_split] at h
    exact h
  · exact rows_app a.2 (rows_app br (rows_app c.2 (rows_app k1.2 (rows_app d.2 (rows_app er (rows_app f.2 (rows_app k3.2 (rows_app k4.2 (rows_app k5.2 k6.2)))))))))
theorem tie_1 (os : Os) (tape : Tape) : (DataW.laidRun Tryz.prog (varsWorld Tryz.prog 2000 (varsId Tryz.prog) os tape).memory 8 (tieP.map (·.1))).map (·.1) = some tieP := by
  rw [(tie_run os tape).1]; rfl
theorem tie_22 (os : Os) (tape : Tape) : (DataW.laidRun Tryz.prog (varsWorld Tryz.prog 2000 (varsId Tryz.prog) os tape).memory 8 (tieP.map (·.1))).map (fun x => decide x.2.Nodup && laidRowsB Tryz.prog (varsWorld Tryz.prog 2000 (varsId Tryz.prog) os tape).memory x.2) = some true := by
  rw [(tie_run os tape).1, Option.map_some, (tie_run os tape).2, decide_eq_true (nodup_of_code psAll_nodup)]; rfl
theorem tie_all : Tryz.prog.laidByTextLater tieL tieK true := Program.laidByTextLater_by_run_h 2000 8 tie_w tie_nw tie_root tie_k tie_g tie_n tie_d tie_1 tie_22 tie_4
theorem tie_row : Rows.deskKnownRow.laidByTextAt .later Tryz.pinned [.sentinel, .data, .data, .sentinel, .sentinel, .pinned, .data, .sentinel, .sentinel, .sentinel, .sentinel, .data, .data, .data, .sentinel, .data, .handle, .sentinel, .sentinel, .sentinel, .sentinel, .sentinel, .sentinel, .sentinel, .sentinel, .sentinel, .sentinel, .sentinel, .sentinel, .sentinel, .sentinel, .sentinel, .sentinel, .sentinel, .sentinel, .sentinel] true :=
  OpenClaim.laidByTextAt_pinned rfl rfl tie_all rfl rfl rfl rfl (fun y hy _e => by
    simp only [Rows.deskKnownRow, List.zip_cons_cons, List.zip_nil_right, List.mem_cons, List.mem_nil_iff, or_false] at hy
    rcases hy with rfl | rfl | rfl | rfl | rfl | rfl | rfl | rfl | rfl | rfl | rfl | rfl | rfl | rfl | rfl | rfl | rfl | rfl | rfl | rfl | rfl | rfl | rfl | rfl | rfl | rfl | rfl | rfl | rfl | rfl | rfl | rfl | rfl | rfl | rfl | rfl
    all_goals first
      | (cases _e; done)
      | exact ⟨tie_pin, by kernel_rfl⟩) tie_fits
end Go.Proofs.YtncodmefagealaaGreatDoor.K
