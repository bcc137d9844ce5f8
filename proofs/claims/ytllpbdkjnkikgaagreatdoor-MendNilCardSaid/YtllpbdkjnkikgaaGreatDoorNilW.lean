/- The walks of the nil-disk calls. -/
import Derived.Test.YtllpbdkjnkikgaaGreatDoorProg
import Derived.WalkKit
import Derived.WalkSpells
import Derived.WalkLawsBesides
namespace Go.Proofs.YtllpbdkjnkikgaaGreatDoor.Nil
open Go.RowKit

theorem bA {w W : World} (h : Below w.heap.size w W) (o : Obj) : Below w.heap.size w (W.alloc o) := h.alloc h.size o
theorem bS {w W : World} (h : Below w.heap.size w W) {b o : Nat} (hp : w.heap.size ≤ b) (u : Value) : Below w.heap.size w (W.setCell ⟨b, o, none⟩ u) := h.setCell (p := ⟨b, o, none⟩) hp u
theorem bD {w W : World} (h : Below w.heap.size w W) : Below w.heap.size w W.drew := h.drew
theorem bT {w W V : World} (h : Below w.heap.size w W) (k : Below W.heap.size W V) : Below w.heap.size w V := h.trans (k.mono h.size)

/-- The zero state. -/
abbrev zst : Value := .agg #[.int .i64 0, .int .i64 0, .int .i64 0, .slice none 0 0, .slice none 0 0, .slice none 0 0]

set_option maxHeartbeats 400000 in
theorem config_any (w : World) :
    Calls Tryz.prog 29 #[] w fun e w' => (∃ b, e = .returned (.agg #[.slice (some ⟨b, 0, none⟩) 2 2, .int .i64 4, .int .i64 2, .int .i64 16, .int .i64 4])) ∧ Below w.heap.size w w' := by
  go_enter Tryz.func29, Tryz.ntmps29
  go_wp2
  refine bodyPost_ret (v := .agg #[.slice (some ⟨w.heap.size + 1, 0, none⟩) 2 2, .int .i64 4, .int .i64 2, .int .i64 16, .int .i64 4]) (by simp [results, Tryz.results29, go_sem]) rfl ⟨⟨_, rfl⟩, ?_⟩
  repeat (first | with_reducible exact Below.refl _ _ | with_reducible refine bA ?_ _ | with_reducible refine bD ?_ | with_reducible refine bS ?_ (by omega) _)

set_option maxHeartbeats 400000 in
theorem newest_nil (c0 c1 c2 c3 c4 : Value) (w : World) :
    Calls Tryz.prog 30 #[.pointer none, .agg #[c0, c1, c2, c3, c4]] w fun e w' => e = .returned (.tuple #[zst, .int .i64 0, .int .i64 2]) ∧ Below w.heap.size w w' := by
  go_enter Tryz.func30, Tryz.ntmps30
  go_wp2
  go_step3
  go_wp2
  rw [Exit.noGoto_ret]
  refine bodyPost_ret (v := .tuple #[zst, .int .i64 0, .int .i64 2]) (by simp [results, Tryz.results30, go_sem]) rfl ⟨rfl, ?_⟩
  repeat (first | with_reducible exact Below.refl _ _ | with_reducible refine bA ?_ _ | with_reducible refine bD ?_ | with_reducible refine bS ?_ (by omega) _)

theorem bcell {W w1 : World} (hb : Below W.heap.size W w1) : (∀ b o, b < W.heap.size → w1.cell? ⟨b, o, none⟩ = W.cell? ⟨b, o, none⟩) ∧ (∀ b o, b < W.heap.size → w1.frozen? ⟨b, o, none⟩ = W.frozen? ⟨b, o, none⟩) :=
  ⟨fun b o h => hb.cell (p := ⟨b, o, none⟩) h, fun b o h => hb.frozen (p := ⟨b, o, none⟩) h⟩

set_option maxHeartbeats 400000 in
theorem recover_nil (c0 c1 c2 c3 c4 : Value) (w : World) :
    Calls Tryz.prog 31 #[.pointer none, .agg #[c0, c1, c2, c3, c4]] w fun e w' => e = .returned (.tuple #[zst, .int .i64 0, .int .i64 0, .int .i64 2]) ∧ Below w.heap.size w w' := by
  go_enter Tryz.func31, Tryz.ntmps31
  go_wp2_with fail
  refine (newest_nil _ _ _ _ _ _).mono ?_
  rintro e w1 ⟨rfl, hb⟩
  obtain ⟨hc, hf⟩ := bcell hb
  have hz : w.heap.size + 1 < w1.heap.size := by have := hb.size; simp at this; omega
  have hz0 : w.heap.size < w1.heap.size := by omega
  go_wp2_with fail
  refine bodyPost_ret (v := .tuple #[zst, .int .i64 0, .int .i64 0, .int .i64 2]) (by simp [results, Tryz.results31, go_sem, hc, hz]) rfl ⟨rfl, ?_⟩
  have hb' : Below w.heap.size w w1 := bT (bA (bA (Below.refl _ _) _) _) hb
  repeat (first | with_reducible exact hb' | with_reducible refine bA ?_ _ | with_reducible refine bD ?_ | with_reducible refine bS ?_ (by omega) _)

set_option maxHeartbeats 400000 in
theorem mendNil_walk (w : World) :
    Calls Tryz.prog 5 #[] w fun e w' => e = .returned (.bool true) ∧ Below w.heap.size w w' := by
  go_enter Tryz.func5, Tryz.ntmps5
  go_wp2_with fail
  refine (config_any _).mono ?_
  rintro e w1 ⟨⟨b, rfl⟩, hb1⟩
  go_wp2_with fail
  refine (newest_nil _ _ _ _ _ _).mono ?_
  rintro e w2 ⟨rfl, hb2⟩
  obtain ⟨hc2, hf2⟩ := bcell hb2
  have hz2 : w1.heap.size < w2.heap.size := by have := hb2.size; simp at this; omega
  go_wp2_with fail
  refine (recover_nil _ _ _ _ _ _).mono ?_
  rintro e w3 ⟨rfl, hb3⟩
  obtain ⟨hc3, hf3⟩ := bcell hb3
  have hz3 : w2.heap.size < w3.heap.size := by have := hb3.size; simp at this; omega
  have hz4 : w1.heap.size < w3.heap.size := by omega
  go_wp2_with fail
  go_ret
  have k2 : Below w.heap.size w w2 := bT (bA hb1 _) hb2
  have k3 : Below w.heap.size w w3 := bT (bA k2 _) hb3
  refine ⟨rfl, ?_⟩
  repeat (first | with_reducible exact k3 | with_reducible refine bA ?_ _)
end Go.Proofs.YtllpbdkjnkikgaaGreatDoor.Nil
