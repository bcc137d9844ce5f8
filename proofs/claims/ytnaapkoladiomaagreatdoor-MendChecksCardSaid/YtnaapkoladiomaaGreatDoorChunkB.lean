/- slices.Chunk of bytes: the contract of its iterator, and what it hands back. -/
import Derived.Test.YtnaapkoladiomaaGreatDoorChunk
namespace Go.Proofs.YtnaapkoladiomaaGreatDoor.B
open Go.RowKit Go.Shelf

theorem chunk_stops (F : Fence) (n : Nat) (h7 : F.fn 61) (hro : F.round = none) (hn : 1 ≤ n) (B1 B2 g N cap : Nat) (hN : N ≤ 131072) (hcap : N ≤ cap) (hcm : cap ≤ 9223372036854775807) (Kp : World → World → Prop)
    (hKp : ∀ A B, Kp A B → B.cell? ⟨B1, 0, none⟩ = A.cell? ⟨B1, 0, none⟩ ∧ B.cell? ⟨B2, 0, none⟩ = A.cell? ⟨B2, 0, none⟩) (w : World)
    (h1 : w.cell? ⟨B1, 0, none⟩ = some (.slice (some ⟨g, 0, none⟩) N cap)) (h2 : w.cell? ⟨B2, 0, none⟩ = some (.int .i64 128)) :
    SeqStopsK F n Tryz.prog 61 #[.pointer (some ⟨B1, 0, none⟩), .pointer (some ⟨B2, 0, none⟩)] (piece g N) Kp (fun ys => nums ys = List.range ((N + 127) / 128)) (fun pre => ∃ k, nums pre = List.range k) N w :=
  fun l J Jx W hW hJ _ hY h0 =>
    chunk1_in F n h7 hro hn l B1 B2 g N cap hN hcap hcm Kp hKp J Jx hY (fun pre V h => hJ pre V V.drew none h ⟨rfl, rfl, rfl, Nat.le_refl _, fun _ _ _ => rfl⟩ (fun _ e => by cases e)) W (bget hW h1) (bget hW h2) h0

set_option maxRecDepth 100000 in
theorem chunk_any (A : Option Addr) (N cap : Nat) (w : World) :
    Calls Tryz.prog 27 #[.slice A N cap, .int .i64 128] w fun e w' => e = .returned (.func (.func 61) #[] #[.pointer (some ⟨w.heap.size, 0, none⟩), .pointer (some ⟨w.heap.size + 1, 0, none⟩)]) ∧
      w' = (w.alloc (.cells #[.slice A N cap] 32)).alloc (.cells #[.int .i64 128] 3) := by
  go_enter Tryz.func27, Tryz.ntmps27
  go_wp2_with fail
  go_ret
  exact ⟨rfl, rfl⟩
end Go.Proofs.YtnaapkoladiomaaGreatDoor.B
