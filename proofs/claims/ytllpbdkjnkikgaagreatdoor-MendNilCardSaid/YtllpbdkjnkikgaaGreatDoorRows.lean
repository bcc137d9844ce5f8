/-
  NARROWER THAN 'FOR EVERY INPUT', by the rows' own cells (each row's printed sentence says how): MendLays: laid · MendChecks: laid · MendNil: laid · MendNewests: laid · MendFull: laid · MendKnown: laid · MendOwn: laid · MendFits: laid · MendPlays: laid · MendCrash: laid · MendAgain: laid.
  DERIVED. THE GIVEN ROWS OF THIS SEAT. 11 by the template 'for every input the law returns true; each argument reads behind the call as it read before'; 0 by the template 'total and deterministic' (their statements: YtllpbdkjnkikgaaGreatDoorTotals.lean).
  GIVEN WITH THE SEED: the statements are not yours to turn. If you find one false, say at which input.
  Laid BY PROGRAM, IN A SANDBOX (cutbox-rows.mjs): the forced cells as the released guide's own fill.sh prints them over the translation 3e7b48c7ccd2be13… (all of the seat's roots in one cut). By AI agents, Wed Nov 11 2026. No macro, syntax, notation, axiom, sorry.
-/
import Derived.Test.YtllpbdkjnkikgaaGreatDoorChecked
import GoSem.Claim
import GoSem.ClaimJoined
import GoSem.ClaimMapViews
import Derived.JoinedTies
import Derived.KernelRfl
namespace Go.Proofs.YtllpbdkjnkikgaaGreatDoor
/- THE CELL 'sum', in the pinned program and in every row, IS THE sha256 OF THE DUMP (.gsa) THAT YtllpbdkjnkikgaaGreatDoorProg.lean LOADS. Nothing in Lean hashes anything: it is a label: what it is worth is what the hold of that sum in a sandbox is worth. -/
noncomputable def Tryz.pinned : Pinned := { name := "ytllpbdkjnkikgaagreatdoor", sum := "3e7b48c7ccd2be134b545eeaec5237b439f6e2f8cc1575b182c6e122a07b8cac", checked := Tryz.checked }
namespace Rows
def none {H : Type} : Left H := { results := [], args := [] }

/- WHAT THE LISTED PACKAGE-LEVEL VARIABLES READ AS WHEN THE CALL BEGINS. Each datum BY PROGRAM (the guide's laid-datum.mjs) off the statement by which the dump's own 'gosem.cut.vars' lays the variable. In a bare row this is a premise. The card (YtllpbdkjnkikgaaGreatDoorCards.lean) ties it to the program's text. -/
def laid_larder_frame_table {H : Type} : DataW H := .agg [.lit (.int .u32 0), .lit (.int .u32 274646895), .lit (.int .u32 549293790), .lit (.int .u32 820201905), .lit (.int .u32 1098587580), .lit (.int .u32 1361435347), .lit (.int .u32 1640403810), .lit (.int .u32 1905808397), .lit (.int .u32 2197175160), .lit (.int .u32 2460548119), .lit (.int .u32 2722870694), .lit (.int .u32 2987750089), .lit (.int .u32 3280807620), .lit (.int .u32 3553878443), .lit (.int .u32 3811616794), .lit (.int .u32 4084100981)]
def laid_larder_disk_flush {H : Type} : DataW H := .agg [.lit (.int .i64 (-1)), .agg [.lit (.int .u8 0), .lit (.int .u8 0), .lit (.int .u8 0), .lit (.int .u8 0), .lit (.int .u8 0), .lit (.int .u8 0), .lit (.int .u8 0), .lit (.int .u8 0), .lit (.int .u8 0), .lit (.int .u8 0), .lit (.int .u8 0), .lit (.int .u8 0), .lit (.int .u8 0), .lit (.int .u8 0), .lit (.int .u8 0), .lit (.int .u8 0), .lit (.int .u8 0), .lit (.int .u8 0), .lit (.int .u8 0), .lit (.int .u8 0), .lit (.int .u8 0), .lit (.int .u8 0), .lit (.int .u8 0), .lit (.int .u8 0), .lit (.int .u8 0), .lit (.int .u8 0), .lit (.int .u8 0), .lit (.int .u8 0), .lit (.int .u8 0), .lit (.int .u8 0), .lit (.int .u8 0), .lit (.int .u8 0), .lit (.int .u8 0), .lit (.int .u8 0), .lit (.int .u8 0), .lit (.int .u8 0), .lit (.int .u8 0), .lit (.int .u8 0), .lit (.int .u8 0), .lit (.int .u8 0), .lit (.int .u8 0), .lit (.int .u8 0), .lit (.int .u8 0), .lit (.int .u8 0), .lit (.int .u8 0), .lit (.int .u8 0), .lit (.int .u8 0), .lit (.int .u8 0), .lit (.int .u8 0), .lit (.int .u8 0), .lit (.int .u8 0), .lit (.int .u8 0), .lit (.int .u8 0), .lit (.int .u8 0), .lit (.int .u8 0), .lit (.int .u8 0), .lit (.int .u8 0), .lit (.int .u8 0), .lit (.int .u8 0), .lit (.int .u8 0), .lit (.int .u8 0), .lit (.int .u8 0), .lit (.int .u8 0), .lit (.int .u8 0), .lit (.int .u8 0), .lit (.int .u8 0), .lit (.int .u8 0), .lit (.int .u8 0), .lit (.int .u8 0), .lit (.int .u8 0), .lit (.int .u8 0), .lit (.int .u8 0), .lit (.int .u8 0), .lit (.int .u8 0), .lit (.int .u8 0), .lit (.int .u8 0), .lit (.int .u8 0), .lit (.int .u8 0), .lit (.int .u8 0), .lit (.int .u8 0), .lit (.int .u8 0), .lit (.int .u8 0), .lit (.int .u8 0), .lit (.int .u8 0), .lit (.int .u8 0), .lit (.int .u8 0), .lit (.int .u8 0), .lit (.int .u8 0), .lit (.int .u8 0), .lit (.int .u8 0), .lit (.int .u8 0), .lit (.int .u8 0), .lit (.int .u8 0), .lit (.int .u8 0), .lit (.int .u8 0), .lit (.int .u8 0), .lit (.int .u8 0), .lit (.int .u8 0), .lit (.int .u8 0), .lit (.int .u8 0), .lit (.int .u8 0), .lit (.int .u8 0), .lit (.int .u8 0), .lit (.int .u8 0), .lit (.int .u8 0), .lit (.int .u8 0), .lit (.int .u8 0), .lit (.int .u8 0), .lit (.int .u8 0), .lit (.int .u8 0), .lit (.int .u8 0), .lit (.int .u8 0), .lit (.int .u8 0), .lit (.int .u8 0), .lit (.int .u8 0), .lit (.int .u8 0), .lit (.int .u8 0), .lit (.int .u8 0), .lit (.int .u8 0), .lit (.int .u8 0), .lit (.int .u8 0), .lit (.int .u8 0), .lit (.int .u8 0), .lit (.int .u8 0), .lit (.int .u8 0), .lit (.int .u8 0), .lit (.int .u8 0), .lit (.int .u8 0)]]

/-- 'larderlaw13.MendLays': WHATEVER THE INPUT: true; the input reads as it did. -/
def mendLaysSpec : ChangeSpec := { name := "mendLays", fn := fun _ => fun
  | [d1, d2, d3] => { results := [.lit (.bool true)], args := [d1, d2, d3] }
  | _ => none }
def mendLaysRow : OpenClaim := { program := "ytllpbdkjnkikgaagreatdoor", sum := "3e7b48c7ccd2be134b545eeaec5237b439f6e2f8cc1575b182c6e122a07b8cac", func := "larder/larderlaw13.MendLays", spec := "mendLays", inPlace := ["internal/bytealg.abigen_runtime_cmpstring"], unfollowed := true, recurses := true, named := ["larder/frame.table"], apart := false, laid := [("larder/frame.table", laid_larder_frame_table)] }
def MendLaysSaid : Prop := mendLaysRow.holds Tryz.pinned (OpenSpec.ofChange mendLaysSpec)

/-- ITS FALSE NEIGHBOUR: 'it returns false'. Refute it at one input. -/
def mendLaysWrong : ChangeSpec := { name := "mendLays", fn := fun _ => fun
  | [d1, d2, d3] => { results := [.lit (.bool false)], args := [d1, d2, d3] }
  | _ => none }
def MendLaysWrongFalsely : Prop := mendLaysRow.holds Tryz.pinned (OpenSpec.ofChange mendLaysWrong)

/-- 'larderlaw13.MendChecks': WHATEVER THE INPUT: true; the input reads as it did. -/
def mendChecksSpec : ChangeSpec := { name := "mendChecks", fn := fun _ => fun
  | [d] => { results := [.lit (.bool true)], args := [d] }
  | _ => none }
def mendChecksRow : OpenClaim := { program := "ytllpbdkjnkikgaagreatdoor", sum := "3e7b48c7ccd2be134b545eeaec5237b439f6e2f8cc1575b182c6e122a07b8cac", func := "larder/larderlaw13.MendChecks", spec := "mendChecks", inPlace := ["internal/bytealg.abigen_runtime_cmpstring"], unfollowed := true, recurses := true, named := ["larder/frame.table"], apart := false, laid := [("larder/frame.table", laid_larder_frame_table)] }
def MendChecksSaid : Prop := mendChecksRow.holds Tryz.pinned (OpenSpec.ofChange mendChecksSpec)

/-- ITS FALSE NEIGHBOUR: 'it returns false'. Refute it at one input. -/
def mendChecksWrong : ChangeSpec := { name := "mendChecks", fn := fun _ => fun
  | [d] => { results := [.lit (.bool false)], args := [d] }
  | _ => none }
def MendChecksWrongFalsely : Prop := mendChecksRow.holds Tryz.pinned (OpenSpec.ofChange mendChecksWrong)

/-- 'larderlaw13.MendNil': WHATEVER THE INPUT: true; the input reads as it did. -/
def mendNilSpec : ChangeSpec := { name := "mendNil", fn := fun _ => fun
  | [] => { results := [.lit (.bool true)], args := [] }
  | _ => none }
def mendNilRow : OpenClaim := { program := "ytllpbdkjnkikgaagreatdoor", sum := "3e7b48c7ccd2be134b545eeaec5237b439f6e2f8cc1575b182c6e122a07b8cac", func := "larder/larderlaw13.MendNil", spec := "mendNil", inPlace := ["internal/bytealg.abigen_runtime_cmpstring"], unfollowed := true, recurses := true, named := ["larder/frame.table", "larder/disk.flush"], apart := false, laid := [("larder/disk.flush", laid_larder_disk_flush), ("larder/frame.table", laid_larder_frame_table)] }
def MendNilSaid : Prop := mendNilRow.holds Tryz.pinned (OpenSpec.ofChange mendNilSpec)

/-- ITS FALSE NEIGHBOUR: 'it returns false'. Refute it at one input. -/
def mendNilWrong : ChangeSpec := { name := "mendNil", fn := fun _ => fun
  | [] => { results := [.lit (.bool false)], args := [] }
  | _ => none }
def MendNilWrongFalsely : Prop := mendNilRow.holds Tryz.pinned (OpenSpec.ofChange mendNilWrong)

/-- 'larderlaw13.MendNewests': WHATEVER THE INPUT: true; the input reads as it did. -/
def mendNewestsSpec : ChangeSpec := { name := "mendNewests", fn := fun _ => fun
  | [d1, d2, d3, d4, d5] => { results := [.lit (.bool true)], args := [d1, d2, d3, d4, d5] }
  | _ => none }
def mendNewestsRow : OpenClaim := { program := "ytllpbdkjnkikgaagreatdoor", sum := "3e7b48c7ccd2be134b545eeaec5237b439f6e2f8cc1575b182c6e122a07b8cac", func := "larder/larderlaw13.MendNewests", spec := "mendNewests", inPlace := ["internal/bytealg.abigen_runtime_cmpstring"], unfollowed := true, recurses := true, named := ["larder/frame.table", "larder/disk.flush"], apart := false, laid := [("larder/disk.flush", laid_larder_disk_flush), ("larder/frame.table", laid_larder_frame_table)] }
def MendNewestsSaid : Prop := mendNewestsRow.holds Tryz.pinned (OpenSpec.ofChange mendNewestsSpec)

/-- ITS FALSE NEIGHBOUR: 'it returns false'. Refute it at one input. -/
def mendNewestsWrong : ChangeSpec := { name := "mendNewests", fn := fun _ => fun
  | [d1, d2, d3, d4, d5] => { results := [.lit (.bool false)], args := [d1, d2, d3, d4, d5] }
  | _ => none }
def MendNewestsWrongFalsely : Prop := mendNewestsRow.holds Tryz.pinned (OpenSpec.ofChange mendNewestsWrong)

/-- 'larderlaw13.MendFull': WHATEVER THE INPUT: true; the input reads as it did. -/
def mendFullSpec : ChangeSpec := { name := "mendFull", fn := fun _ => fun
  | [d] => { results := [.lit (.bool true)], args := [d] }
  | _ => none }
def mendFullRow : OpenClaim := { program := "ytllpbdkjnkikgaagreatdoor", sum := "3e7b48c7ccd2be134b545eeaec5237b439f6e2f8cc1575b182c6e122a07b8cac", func := "larder/larderlaw13.MendFull", spec := "mendFull", inPlace := ["internal/bytealg.abigen_runtime_cmpstring"], unfollowed := true, recurses := true, named := ["larder/frame.table", "larder/disk.flush"], apart := false, laid := [("larder/disk.flush", laid_larder_disk_flush), ("larder/frame.table", laid_larder_frame_table)] }
def MendFullSaid : Prop := mendFullRow.holds Tryz.pinned (OpenSpec.ofChange mendFullSpec)

/-- ITS FALSE NEIGHBOUR: 'it returns false'. Refute it at one input. -/
def mendFullWrong : ChangeSpec := { name := "mendFull", fn := fun _ => fun
  | [d] => { results := [.lit (.bool false)], args := [d] }
  | _ => none }
def MendFullWrongFalsely : Prop := mendFullRow.holds Tryz.pinned (OpenSpec.ofChange mendFullWrong)

/-- 'larderlaw13.MendKnown': WHATEVER THE INPUT: true; the input reads as it did. -/
def mendKnownSpec : ChangeSpec := { name := "mendKnown", fn := fun _ => fun
  | [] => { results := [.lit (.bool true)], args := [] }
  | _ => none }
def mendKnownRow : OpenClaim := { program := "ytllpbdkjnkikgaagreatdoor", sum := "3e7b48c7ccd2be134b545eeaec5237b439f6e2f8cc1575b182c6e122a07b8cac", func := "larder/larderlaw13.MendKnown", spec := "mendKnown", inPlace := ["internal/bytealg.abigen_runtime_cmpstring"], unfollowed := true, recurses := true, named := ["larder/frame.table", "larder/disk.flush"], apart := false, laid := [("larder/disk.flush", laid_larder_disk_flush), ("larder/frame.table", laid_larder_frame_table)] }
def MendKnownSaid : Prop := mendKnownRow.holds Tryz.pinned (OpenSpec.ofChange mendKnownSpec)

/-- ITS FALSE NEIGHBOUR: 'it returns false'. Refute it at one input. -/
def mendKnownWrong : ChangeSpec := { name := "mendKnown", fn := fun _ => fun
  | [] => { results := [.lit (.bool false)], args := [] }
  | _ => none }
def MendKnownWrongFalsely : Prop := mendKnownRow.holds Tryz.pinned (OpenSpec.ofChange mendKnownWrong)

/-- 'larderlaw13.MendOwn': WHATEVER THE INPUT: true; the input reads as it did. -/
def mendOwnSpec : ChangeSpec := { name := "mendOwn", fn := fun _ => fun
  | [d1, d2, d3] => { results := [.lit (.bool true)], args := [d1, d2, d3] }
  | _ => none }
def mendOwnRow : OpenClaim := { program := "ytllpbdkjnkikgaagreatdoor", sum := "3e7b48c7ccd2be134b545eeaec5237b439f6e2f8cc1575b182c6e122a07b8cac", func := "larder/larderlaw13.MendOwn", spec := "mendOwn", inPlace := ["internal/bytealg.abigen_runtime_cmpstring"], unfollowed := true, recurses := true, named := ["larder/frame.table", "larder/disk.flush"], apart := false, laid := [("larder/disk.flush", laid_larder_disk_flush), ("larder/frame.table", laid_larder_frame_table)] }
def MendOwnSaid : Prop := mendOwnRow.holds Tryz.pinned (OpenSpec.ofChange mendOwnSpec)

/-- ITS FALSE NEIGHBOUR: 'it returns false'. Refute it at one input. -/
def mendOwnWrong : ChangeSpec := { name := "mendOwn", fn := fun _ => fun
  | [d1, d2, d3] => { results := [.lit (.bool false)], args := [d1, d2, d3] }
  | _ => none }
def MendOwnWrongFalsely : Prop := mendOwnRow.holds Tryz.pinned (OpenSpec.ofChange mendOwnWrong)

/-- 'larderlaw13.MendFits': WHATEVER THE INPUT: true; the input reads as it did. -/
def mendFitsSpec : ChangeSpec := { name := "mendFits", fn := fun _ => fun
  | [d1, d2, d3] => { results := [.lit (.bool true)], args := [d1, d2, d3] }
  | _ => none }
def mendFitsRow : OpenClaim := { program := "ytllpbdkjnkikgaagreatdoor", sum := "3e7b48c7ccd2be134b545eeaec5237b439f6e2f8cc1575b182c6e122a07b8cac", func := "larder/larderlaw13.MendFits", spec := "mendFits", inPlace := ["internal/bytealg.abigen_runtime_cmpstring"], unfollowed := true, recurses := true, named := ["larder/frame.table", "larder/disk.flush"], apart := false, laid := [("larder/disk.flush", laid_larder_disk_flush), ("larder/frame.table", laid_larder_frame_table)] }
def MendFitsSaid : Prop := mendFitsRow.holds Tryz.pinned (OpenSpec.ofChange mendFitsSpec)

/-- ITS FALSE NEIGHBOUR: 'it returns false'. Refute it at one input. -/
def mendFitsWrong : ChangeSpec := { name := "mendFits", fn := fun _ => fun
  | [d1, d2, d3] => { results := [.lit (.bool false)], args := [d1, d2, d3] }
  | _ => none }
def MendFitsWrongFalsely : Prop := mendFitsRow.holds Tryz.pinned (OpenSpec.ofChange mendFitsWrong)

/-- 'larderlaw13.MendPlays': WHATEVER THE INPUT: true; the input reads as it did. -/
def mendPlaysSpec : ChangeSpec := { name := "mendPlays", fn := fun _ => fun
  | [d1, d2] => { results := [.lit (.bool true)], args := [d1, d2] }
  | _ => none }
def mendPlaysRow : OpenClaim := { program := "ytllpbdkjnkikgaagreatdoor", sum := "3e7b48c7ccd2be134b545eeaec5237b439f6e2f8cc1575b182c6e122a07b8cac", func := "larder/larderlaw13.MendPlays", spec := "mendPlays", inPlace := ["internal/bytealg.abigen_runtime_cmpstring"], unfollowed := true, recurses := true, named := ["larder/frame.table", "larder/disk.flush"], apart := false, laid := [("larder/disk.flush", laid_larder_disk_flush), ("larder/frame.table", laid_larder_frame_table)] }
def MendPlaysSaid : Prop := mendPlaysRow.holds Tryz.pinned (OpenSpec.ofChange mendPlaysSpec)

/-- ITS FALSE NEIGHBOUR: 'it returns false'. Refute it at one input. -/
def mendPlaysWrong : ChangeSpec := { name := "mendPlays", fn := fun _ => fun
  | [d1, d2] => { results := [.lit (.bool false)], args := [d1, d2] }
  | _ => none }
def MendPlaysWrongFalsely : Prop := mendPlaysRow.holds Tryz.pinned (OpenSpec.ofChange mendPlaysWrong)

/-- 'larderlaw13.MendCrash': WHATEVER THE INPUT: true; the input reads as it did. -/
def mendCrashSpec : ChangeSpec := { name := "mendCrash", fn := fun _ => fun
  | [d1, d2] => { results := [.lit (.bool true)], args := [d1, d2] }
  | _ => none }
def mendCrashRow : OpenClaim := { program := "ytllpbdkjnkikgaagreatdoor", sum := "3e7b48c7ccd2be134b545eeaec5237b439f6e2f8cc1575b182c6e122a07b8cac", func := "larder/larderlaw13.MendCrash", spec := "mendCrash", inPlace := ["internal/bytealg.abigen_runtime_cmpstring"], unfollowed := true, recurses := true, named := ["larder/frame.table", "larder/disk.flush"], apart := false, laid := [("larder/disk.flush", laid_larder_disk_flush), ("larder/frame.table", laid_larder_frame_table)] }
def MendCrashSaid : Prop := mendCrashRow.holds Tryz.pinned (OpenSpec.ofChange mendCrashSpec)

/-- ITS FALSE NEIGHBOUR: 'it returns false'. Refute it at one input. -/
def mendCrashWrong : ChangeSpec := { name := "mendCrash", fn := fun _ => fun
  | [d1, d2] => { results := [.lit (.bool false)], args := [d1, d2] }
  | _ => none }
def MendCrashWrongFalsely : Prop := mendCrashRow.holds Tryz.pinned (OpenSpec.ofChange mendCrashWrong)

/-- 'larderlaw13.MendAgain': WHATEVER THE INPUT: true; the input reads as it did. -/
def mendAgainSpec : ChangeSpec := { name := "mendAgain", fn := fun _ => fun
  | [d1, d2, d3] => { results := [.lit (.bool true)], args := [d1, d2, d3] }
  | _ => none }
def mendAgainRow : OpenClaim := { program := "ytllpbdkjnkikgaagreatdoor", sum := "3e7b48c7ccd2be134b545eeaec5237b439f6e2f8cc1575b182c6e122a07b8cac", func := "larder/larderlaw13.MendAgain", spec := "mendAgain", inPlace := ["internal/bytealg.abigen_runtime_cmpstring"], unfollowed := true, recurses := true, named := ["larder/frame.table", "larder/disk.flush"], apart := false, laid := [("larder/disk.flush", laid_larder_disk_flush), ("larder/frame.table", laid_larder_frame_table)] }
def MendAgainSaid : Prop := mendAgainRow.holds Tryz.pinned (OpenSpec.ofChange mendAgainSpec)

/-- ITS FALSE NEIGHBOUR: 'it returns false'. Refute it at one input. -/
def mendAgainWrong : ChangeSpec := { name := "mendAgain", fn := fun _ => fun
  | [d1, d2, d3] => { results := [.lit (.bool false)], args := [d1, d2, d3] }
  | _ => none }
def MendAgainWrongFalsely : Prop := mendAgainRow.holds Tryz.pinned (OpenSpec.ofChange mendAgainWrong)

/- THE SECOND FORM. 'bulk': how many values and letters a reading holds, each counted each time it is reached (what is shared counts as often as it is met; a slice's spare places count too). A statement '..UptoSaid' is the law's where the arguments, and the package variables that the reading takes, are together of bulk at most 1048576: NARROWER than '..Said'. Prove '..Said' where nothing that the law and all that it calls make is longer than what came in: it says more and counts as full. Else prove '..UptoSaid'. A law counts once. -/
mutual
def uptoBulk {H : Type} : DataW H → Nat
  | .lit (.string bytes) => bytes.length + 1
  | .lit _ => 1
  | .nil => 1
  | .ptr d => uptoBulk d + 1
  | .slice elems spare => uptoBulkAll elems + uptoBulkAll spare + 1
  | .agg parts => uptoBulkAll parts + 1
  | .iface _ d => uptoBulk d + 1
  | .map entries => uptoBulkEntries entries + 1
  | .held _ => 1
def uptoBulkAll {H : Type} : List (DataW H) → Nat
  | [] => 0
  | d :: r => uptoBulk d + uptoBulkAll r
def uptoBulkEntries {H : Type} : List (Lit × DataW H) → Nat
  | [] => 0
  | x :: r => uptoBulkEntry x + uptoBulkEntries r
def uptoBulkEntry {H : Type} : Lit × DataW H → Nat
  | (.string bytes, d) => bytes.length + uptoBulk d + 1
  | (_, d) => uptoBulk d + 1
 end
def uptoSmall : (H : Type) → List (DataW H) → Bool := fun _ ds => decide (uptoBulkAll ds ≤ 1048576)
def OpenSpec.upto (s : _root_.Go.ChangeSpec) : _root_.Go.OpenSpec := { _root_.Go.OpenSpec.ofChange s with cond := some uptoSmall }

/-- 'larderlaw13.MendLays', WHERE WHAT IT READS IS OF BULK AT MOST 1048576: true; the input reads as it did. -/
def mendLaysUptoRow : OpenClaim := { program := "ytllpbdkjnkikgaagreatdoor", sum := "3e7b48c7ccd2be134b545eeaec5237b439f6e2f8cc1575b182c6e122a07b8cac", func := "larder/larderlaw13.MendLays", spec := "mendLays", inPlace := ["internal/bytealg.abigen_runtime_cmpstring"], unfollowed := true, recurses := true, named := ["larder/frame.table"], apart := false, laid := [("larder/frame.table", laid_larder_frame_table)], narrowed := true }
def MendLaysUptoSaid : Prop := mendLaysUptoRow.holds Tryz.pinned (OpenSpec.upto mendLaysSpec)

/-- 'larderlaw13.MendChecks', WHERE WHAT IT READS IS OF BULK AT MOST 1048576: true; the input reads as it did. -/
def mendChecksUptoRow : OpenClaim := { program := "ytllpbdkjnkikgaagreatdoor", sum := "3e7b48c7ccd2be134b545eeaec5237b439f6e2f8cc1575b182c6e122a07b8cac", func := "larder/larderlaw13.MendChecks", spec := "mendChecks", inPlace := ["internal/bytealg.abigen_runtime_cmpstring"], unfollowed := true, recurses := true, named := ["larder/frame.table"], apart := false, laid := [("larder/frame.table", laid_larder_frame_table)], narrowed := true }
def MendChecksUptoSaid : Prop := mendChecksUptoRow.holds Tryz.pinned (OpenSpec.upto mendChecksSpec)

/-- 'larderlaw13.MendNil', WHERE WHAT IT READS IS OF BULK AT MOST 1048576: true; the input reads as it did. -/
def mendNilUptoRow : OpenClaim := { program := "ytllpbdkjnkikgaagreatdoor", sum := "3e7b48c7ccd2be134b545eeaec5237b439f6e2f8cc1575b182c6e122a07b8cac", func := "larder/larderlaw13.MendNil", spec := "mendNil", inPlace := ["internal/bytealg.abigen_runtime_cmpstring"], unfollowed := true, recurses := true, named := ["larder/frame.table", "larder/disk.flush"], apart := false, laid := [("larder/disk.flush", laid_larder_disk_flush), ("larder/frame.table", laid_larder_frame_table)], narrowed := true }
def MendNilUptoSaid : Prop := mendNilUptoRow.holds Tryz.pinned (OpenSpec.upto mendNilSpec)

/-- 'larderlaw13.MendNewests', WHERE WHAT IT READS IS OF BULK AT MOST 1048576: true; the input reads as it did. -/
def mendNewestsUptoRow : OpenClaim := { program := "ytllpbdkjnkikgaagreatdoor", sum := "3e7b48c7ccd2be134b545eeaec5237b439f6e2f8cc1575b182c6e122a07b8cac", func := "larder/larderlaw13.MendNewests", spec := "mendNewests", inPlace := ["internal/bytealg.abigen_runtime_cmpstring"], unfollowed := true, recurses := true, named := ["larder/frame.table", "larder/disk.flush"], apart := false, laid := [("larder/disk.flush", laid_larder_disk_flush), ("larder/frame.table", laid_larder_frame_table)], narrowed := true }
def MendNewestsUptoSaid : Prop := mendNewestsUptoRow.holds Tryz.pinned (OpenSpec.upto mendNewestsSpec)

/-- 'larderlaw13.MendFull', WHERE WHAT IT READS IS OF BULK AT MOST 1048576: true; the input reads as it did. -/
def mendFullUptoRow : OpenClaim := { program := "ytllpbdkjnkikgaagreatdoor", sum := "3e7b48c7ccd2be134b545eeaec5237b439f6e2f8cc1575b182c6e122a07b8cac", func := "larder/larderlaw13.MendFull", spec := "mendFull", inPlace := ["internal/bytealg.abigen_runtime_cmpstring"], unfollowed := true, recurses := true, named := ["larder/frame.table", "larder/disk.flush"], apart := false, laid := [("larder/disk.flush", laid_larder_disk_flush), ("larder/frame.table", laid_larder_frame_table)], narrowed := true }
def MendFullUptoSaid : Prop := mendFullUptoRow.holds Tryz.pinned (OpenSpec.upto mendFullSpec)

/-- 'larderlaw13.MendKnown', WHERE WHAT IT READS IS OF BULK AT MOST 1048576: true; the input reads as it did. -/
def mendKnownUptoRow : OpenClaim := { program := "ytllpbdkjnkikgaagreatdoor", sum := "3e7b48c7ccd2be134b545eeaec5237b439f6e2f8cc1575b182c6e122a07b8cac", func := "larder/larderlaw13.MendKnown", spec := "mendKnown", inPlace := ["internal/bytealg.abigen_runtime_cmpstring"], unfollowed := true, recurses := true, named := ["larder/frame.table", "larder/disk.flush"], apart := false, laid := [("larder/disk.flush", laid_larder_disk_flush), ("larder/frame.table", laid_larder_frame_table)], narrowed := true }
def MendKnownUptoSaid : Prop := mendKnownUptoRow.holds Tryz.pinned (OpenSpec.upto mendKnownSpec)

/-- 'larderlaw13.MendOwn', WHERE WHAT IT READS IS OF BULK AT MOST 1048576: true; the input reads as it did. -/
def mendOwnUptoRow : OpenClaim := { program := "ytllpbdkjnkikgaagreatdoor", sum := "3e7b48c7ccd2be134b545eeaec5237b439f6e2f8cc1575b182c6e122a07b8cac", func := "larder/larderlaw13.MendOwn", spec := "mendOwn", inPlace := ["internal/bytealg.abigen_runtime_cmpstring"], unfollowed := true, recurses := true, named := ["larder/frame.table", "larder/disk.flush"], apart := false, laid := [("larder/disk.flush", laid_larder_disk_flush), ("larder/frame.table", laid_larder_frame_table)], narrowed := true }
def MendOwnUptoSaid : Prop := mendOwnUptoRow.holds Tryz.pinned (OpenSpec.upto mendOwnSpec)

/-- 'larderlaw13.MendFits', WHERE WHAT IT READS IS OF BULK AT MOST 1048576: true; the input reads as it did. -/
def mendFitsUptoRow : OpenClaim := { program := "ytllpbdkjnkikgaagreatdoor", sum := "3e7b48c7ccd2be134b545eeaec5237b439f6e2f8cc1575b182c6e122a07b8cac", func := "larder/larderlaw13.MendFits", spec := "mendFits", inPlace := ["internal/bytealg.abigen_runtime_cmpstring"], unfollowed := true, recurses := true, named := ["larder/frame.table", "larder/disk.flush"], apart := false, laid := [("larder/disk.flush", laid_larder_disk_flush), ("larder/frame.table", laid_larder_frame_table)], narrowed := true }
def MendFitsUptoSaid : Prop := mendFitsUptoRow.holds Tryz.pinned (OpenSpec.upto mendFitsSpec)

/-- 'larderlaw13.MendPlays', WHERE WHAT IT READS IS OF BULK AT MOST 1048576: true; the input reads as it did. -/
def mendPlaysUptoRow : OpenClaim := { program := "ytllpbdkjnkikgaagreatdoor", sum := "3e7b48c7ccd2be134b545eeaec5237b439f6e2f8cc1575b182c6e122a07b8cac", func := "larder/larderlaw13.MendPlays", spec := "mendPlays", inPlace := ["internal/bytealg.abigen_runtime_cmpstring"], unfollowed := true, recurses := true, named := ["larder/frame.table", "larder/disk.flush"], apart := false, laid := [("larder/disk.flush", laid_larder_disk_flush), ("larder/frame.table", laid_larder_frame_table)], narrowed := true }
def MendPlaysUptoSaid : Prop := mendPlaysUptoRow.holds Tryz.pinned (OpenSpec.upto mendPlaysSpec)

/-- 'larderlaw13.MendCrash', WHERE WHAT IT READS IS OF BULK AT MOST 1048576: true; the input reads as it did. -/
def mendCrashUptoRow : OpenClaim := { program := "ytllpbdkjnkikgaagreatdoor", sum := "3e7b48c7ccd2be134b545eeaec5237b439f6e2f8cc1575b182c6e122a07b8cac", func := "larder/larderlaw13.MendCrash", spec := "mendCrash", inPlace := ["internal/bytealg.abigen_runtime_cmpstring"], unfollowed := true, recurses := true, named := ["larder/frame.table", "larder/disk.flush"], apart := false, laid := [("larder/disk.flush", laid_larder_disk_flush), ("larder/frame.table", laid_larder_frame_table)], narrowed := true }
def MendCrashUptoSaid : Prop := mendCrashUptoRow.holds Tryz.pinned (OpenSpec.upto mendCrashSpec)

/-- 'larderlaw13.MendAgain', WHERE WHAT IT READS IS OF BULK AT MOST 1048576: true; the input reads as it did. -/
def mendAgainUptoRow : OpenClaim := { program := "ytllpbdkjnkikgaagreatdoor", sum := "3e7b48c7ccd2be134b545eeaec5237b439f6e2f8cc1575b182c6e122a07b8cac", func := "larder/larderlaw13.MendAgain", spec := "mendAgain", inPlace := ["internal/bytealg.abigen_runtime_cmpstring"], unfollowed := true, recurses := true, named := ["larder/frame.table", "larder/disk.flush"], apart := false, laid := [("larder/disk.flush", laid_larder_disk_flush), ("larder/frame.table", laid_larder_frame_table)], narrowed := true }
def MendAgainUptoSaid : Prop := mendAgainUptoRow.holds Tryz.pinned (OpenSpec.upto mendAgainSpec)

end Rows
end Go.Proofs.YtllpbdkjnkikgaaGreatDoor
