/- View of a new memory. -/
import Derived.Test.YtjdojkgfajndbaaGreatDoorCartB
namespace Go.Proofs.YtjdojkgfajndbaaGreatDoor.B
open Go.RowKit

set_option maxRecDepth 100000 in
set_option maxHeartbeats 3200000 in
theorem view_any (g q : Nat) (life lsn noted flusher weight reserved free : Int) (w : World) (hL : LogAt w q lsn free)
    (c20 : w.cell? ⟨g, 20, none⟩ = some (.int .i64 life)) (c17 : w.cell? ⟨g, 17, none⟩ = some (.pointer (some ⟨q, 0, none⟩))) (c19 : w.cell? ⟨g, 19, none⟩ = some (.int .i64 noted)) (c21 : w.cell? ⟨g, 21, none⟩ = some (.int .i64 flusher))
    (c13 : w.cell? ⟨g, 13, none⟩ = some (.int .i64 weight)) (c22 : w.cell? ⟨g, 22, none⟩ = some (.int .i64 reserved)) :
    Calls Tryz.prog 10 #[.pointer (some ⟨g, 0, none⟩)] w fun e w' => e = .returned (.agg #[.int .i64 life, .int .i64 lsn, .int .i64 noted, .int .i64 lsn, .int .i64 flusher, .int .i64 weight, .int .i64 reserved, .int .i64 free]) ∧ Below w.heap.size w w' := by
  have n1 := World.new_ne w _ c20
  have n2 := World.new_ne w _ c17
  have n3 := World.new_ne w _ c19
  have n4 := World.new_ne w _ c21
  have n5 := World.new_ne w _ c13
  have n6 := World.new_ne w _ c22
  have hLA : ∀ o : Obj, LogAt (w.alloc o).drew q lsn free := by
    intro o
    obtain ⟨x0, x1, x2, x3, x4, x6, x9, x10, x11, x12, x13, x14, x15, hB⟩ := hL
    exact ⟨x0, x1, x2, x3, x4, x6, x9, x10, x11, x12, x13, x14, x15, hB.alloc o⟩
  clear hL
  go_enter Tryz.func10, Tryz.ntmps10
  go_wp2_with fail
  go_region_held3 (fun w' => w'.cell? ⟨g, 20, none⟩ = some (.int .i64 life) ∧ w'.cell? ⟨g, 17, none⟩ = some (.pointer (some ⟨q, 0, none⟩)) ∧ w'.cell? ⟨g, 19, none⟩ = some (.int .i64 noted) ∧ w'.cell? ⟨g, 21, none⟩ = some (.int .i64 flusher) ∧ w'.cell? ⟨g, 13, none⟩ = some (.int .i64 weight) ∧ w'.cell? ⟨g, 22, none⟩ = some (.int .i64 reserved))
    (go_keep)
    (first
      | (go_at_call 25; refine (given_any q lsn free _ (hLA _)).mono ?_; rintro e w2 ⟨rfl, rfl⟩)
      | (go_at_call 24; refine (durable_any q lsn free _ (hLA _)).mono ?_; rintro e w2 ⟨rfl, rfl⟩)
      | (go_at_call 26; refine (free_any q lsn free _ (hLA _)).mono ?_; rintro e w2 ⟨rfl, rfl⟩))
  rename_i hHeld
  clear hHeld
  go_wp2_with fail
  refine bodyPost_ret (v := .agg #[.int .i64 life, .int .i64 lsn, .int .i64 noted, .int .i64 lsn, .int .i64 flusher, .int .i64 weight, .int .i64 reserved, .int .i64 free]) (by simp [results, Tryz.results10, go_sem, *]) rfl ⟨rfl, bD (bA (Below.refl _ _) _)⟩
end Go.Proofs.YtjdojkgfajndbaaGreatDoor.B
