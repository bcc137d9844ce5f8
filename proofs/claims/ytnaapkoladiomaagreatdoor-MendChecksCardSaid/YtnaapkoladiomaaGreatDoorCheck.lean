/- mend.Check. -/
import Derived.Test.YtnaapkoladiomaaGreatDoorMend
namespace Go.Proofs.YtnaapkoladiomaaGreatDoor.B
open Go.RowKit

theorem check_any (A : Option Addr) (n c : Nat) (ss : List ByteArray) (st hd se sl : Int) (w : World) (hl : ss.length = n) (hn : n ≤ 9223372036854775807) (hr : Rd w 1 A n (strs ss)) :
    Calls Tryz.prog 17 #[cfgV A n c st hd se sl] w fun e w' => e = .returned (.int .i64 (emptyE ss st hd se sl)) ∧ Below w.heap.size w w' := by
  go_enter Tryz.func17, Tryz.ntmps17
  go_wp2_with fail
  refine (mendEmpty_any A n c ss st hd se sl _ hl hn (hr.below (bA (Below.refl _ _) _))).mono ?_
  rintro e w1 ⟨hb, ⟨h0, rfl⟩ | ⟨h0, v, rfl, hv⟩⟩
  · have hb1 := hide (bT (bA (Below.refl w.heap.size w) _) hb)
    clear hb h0
    generalize hE : emptyE ss st hd se sl = E
    go_wp2_with fail
    go_ret
    exact ⟨by rw [hE]; rfl, bA hb1.out _⟩
  · have hb1 := hide (bT (bA (Below.refl w.heap.size w) _) hb)
    obtain ⟨A1, c1, rfl, hc1⟩ := own_slice hv
    have HE := hide h0
    clear hb h0 hv
    go_wp2_with fail
    go_ret
    exact ⟨by rw [HE.out]; rfl, bA hb1.out _⟩
end Go.Proofs.YtnaapkoladiomaaGreatDoor.B
