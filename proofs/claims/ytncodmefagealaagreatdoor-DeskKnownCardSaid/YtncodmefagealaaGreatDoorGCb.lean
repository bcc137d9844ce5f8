/- Contracts of functions of the program, walked, and plain laws. -/
import Derived.Test.YtncodmefagealaaGreatDoorGCa
import Derived.JoinedOf
import GoSem.ClaimSeven
/- Closed facts of the functions that the call can come to, a part of them. -/
namespace Go.Proofs.YtncodmefagealaaGreatDoor.K
open Go Go.Ev
theorem clo_t0 : ((cloL.drop 0).take 125).all (fun f => (match cloT.get f with | some l => l | none => []) == leadsAt Tryz.prog f) = true := by kernel_rfl
theorem clo_i0 : ((cloL.drop 0).take 125).filterMap (fun g => (Tryz.prog.funcs[g]?).bind fun fn => if fn.ours || fn.body.isNone || fn.name == "runtime.NumGoroutine" then some fn.name else none) = ["internal/bytealg.abigen_runtime_cmpstring"] := by kernel_rfl
theorem clo_g0 : ((cloL.drop 0).take 125).flatMap (fun g => ((Tryz.prog.funcs[g]?).bind (·.body)).elim [] Code.globalsNamed) = [0, 25, 25] := by kernel_rfl
theorem clo_r0 : ((cloL.drop 0).take 125).filterMap (fun g => (Tryz.prog.funcs[g]?).bind fun fn => if fn.body.isNone then entryReads.lookup fn.name else none) = [] := by kernel_rfl
theorem clo_s0 : ((cloL.drop 0).take 125).any (fun g => (Tryz.prog.funcs[g]?).any Func.goes) = false := by kernel_rfl
end Go.Proofs.YtncodmefagealaaGreatDoor.K
/- Closed facts of the functions that the call can come to, a part of them. -/
namespace Go.Proofs.YtncodmefagealaaGreatDoor.K
open Go Go.Ev
theorem clo_t1 : ((cloL.drop 125).take 125).all (fun f => (match cloT.get f with | some l => l | none => []) == leadsAt Tryz.prog f) = true := by kernel_rfl
theorem clo_i1 : ((cloL.drop 125).take 125).filterMap (fun g => (Tryz.prog.funcs[g]?).bind fun fn => if fn.ours || fn.body.isNone || fn.name == "runtime.NumGoroutine" then some fn.name else none) = ["internal/bytealg.CountString", "internal/bytealg.IndexByteString", "internal/bytealg.IndexString"] := by kernel_rfl
theorem clo_g1 : ((cloL.drop 125).take 125).flatMap (fun g => ((Tryz.prog.funcs[g]?).bind (·.body)).elim [] Code.globalsNamed) = [26, 2, 3, 0, 12, 12, 12, 27, 28] := by kernel_rfl
theorem clo_r1 : ((cloL.drop 125).take 125).filterMap (fun g => (Tryz.prog.funcs[g]?).bind fun fn => if fn.body.isNone then entryReads.lookup fn.name else none) = ["internal/bytealg.MaxLen"] := by kernel_rfl
theorem clo_s1 : ((cloL.drop 125).take 125).any (fun g => (Tryz.prog.funcs[g]?).any Func.goes) = false := by kernel_rfl
end Go.Proofs.YtncodmefagealaaGreatDoor.K
/- Closed facts of the functions that the call can come to, a part of them. -/
namespace Go.Proofs.YtncodmefagealaaGreatDoor.K
open Go Go.Ev
theorem clo_t2 : ((cloL.drop 250).take 125).all (fun f => (match cloT.get f with | some l => l | none => []) == leadsAt Tryz.prog f) = true := by kernel_rfl
theorem clo_i2 : ((cloL.drop 250).take 125).filterMap (fun g => (Tryz.prog.funcs[g]?).bind fun fn => if fn.ours || fn.body.isNone || fn.name == "runtime.NumGoroutine" then some fn.name else none) = ["internal/abi.NoEscape", "internal/bytealg.MakeNoZero"] := by kernel_rfl
theorem clo_g2 : ((cloL.drop 250).take 125).flatMap (fun g => ((Tryz.prog.funcs[g]?).bind (·.body)).elim [] Code.globalsNamed) = [4, 5, 5, 5, 0, 0, 32, 33, 19, 35, 36, 13, 13, 34, 34, 34, 5] := by kernel_rfl
theorem clo_r2 : ((cloL.drop 250).take 125).filterMap (fun g => (Tryz.prog.funcs[g]?).bind fun fn => if fn.body.isNone then entryReads.lookup fn.name else none) = [] := by kernel_rfl
theorem clo_s2 : ((cloL.drop 250).take 125).any (fun g => (Tryz.prog.funcs[g]?).any Func.goes) = false := by kernel_rfl
end Go.Proofs.YtncodmefagealaaGreatDoor.K
/- Closed facts of the functions that the call can come to, a part of them. -/
namespace Go.Proofs.YtncodmefagealaaGreatDoor.K
open Go Go.Ev
theorem clo_t3 : ((cloL.drop 375).take 125).all (fun f => (match cloT.get f with | some l => l | none => []) == leadsAt Tryz.prog f) = true := by kernel_rfl
theorem clo_i3 : ((cloL.drop 375).take 125).filterMap (fun g => (Tryz.prog.funcs[g]?).bind fun fn => if fn.ours || fn.body.isNone || fn.name == "runtime.NumGoroutine" then some fn.name else none) = [] := by kernel_rfl
theorem clo_g3 : ((cloL.drop 375).take 125).flatMap (fun g => ((Tryz.prog.funcs[g]?).bind (·.body)).elim [] Code.globalsNamed) = [26, 26] := by kernel_rfl
theorem clo_r3 : ((cloL.drop 375).take 125).filterMap (fun g => (Tryz.prog.funcs[g]?).bind fun fn => if fn.body.isNone then entryReads.lookup fn.name else none) = [] := by kernel_rfl
theorem clo_s3 : ((cloL.drop 375).take 125).any (fun g => (Tryz.prog.funcs[g]?).any Func.goes) = false := by kernel_rfl
end Go.Proofs.YtncodmefagealaaGreatDoor.K
/- Closed facts of the functions that the call can come to, a part of them. -/
namespace Go.Proofs.YtncodmefagealaaGreatDoor.K
open Go Go.Ev
theorem clo_t4 : ((cloL.drop 500).take 125).all (fun f => (match cloT.get f with | some l => l | none => []) == leadsAt Tryz.prog f) = true := by kernel_rfl
theorem clo_i4 : ((cloL.drop 500).take 125).filterMap (fun g => (Tryz.prog.funcs[g]?).bind fun fn => if fn.ours || fn.body.isNone || fn.name == "runtime.NumGoroutine" then some fn.name else none) = ["internal/reflectlite.TypeOf", "internal/reflectlite.ValueOf", "(internal/reflectlite.Value).Type", "(internal/reflectlite.Value).IsNil", "(internal/reflectlite.Value).Elem", "(internal/reflectlite.Value).Set"] := by kernel_rfl
theorem clo_g4 : ((cloL.drop 500).take 125).flatMap (fun g => ((Tryz.prog.funcs[g]?).bind (·.body)).elim [] Code.globalsNamed) = [1, 14, 18, 30, 31, 29, 17, 15, 16, 30, 30, 30, 31, 18, 6, 7, 6, 8, 8, 7, 14, 15, 15, 16, 17, 18, 9, 10, 11, 20, 21, 21, 22, 23, 24] := by kernel_rfl
theorem clo_r4 : ((cloL.drop 500).take 125).filterMap (fun g => (Tryz.prog.funcs[g]?).bind fun fn => if fn.body.isNone then entryReads.lookup fn.name else none) = [] := by kernel_rfl
theorem clo_s4 : ((cloL.drop 500).take 125).any (fun g => (Tryz.prog.funcs[g]?).any Func.goes) = false := by kernel_rfl
end Go.Proofs.YtncodmefagealaaGreatDoor.K
