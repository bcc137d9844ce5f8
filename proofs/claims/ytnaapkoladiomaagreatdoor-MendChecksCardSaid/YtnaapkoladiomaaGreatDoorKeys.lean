/- slices.Sorted(maps.Keys(m)) at the two maps of a ledger: the kit's contracts laid here; at a map with nothing in it the answer is nil. -/
import Derived.Test.YtnaapkoladiomaaGreatDoorMap
import Derived.Test.YtnaapkoladiomaaGreatDoorLays
import Derived.Shelf.SlIter.Nil
import Derived.Shelf.SortM.Plain
import Derived.Shelf.SortM.SortNone
import Derived.Ground.GgzProg
import Derived.Ground.SlgmProg
namespace Go.Proofs
open Go.RowKit Go.Maps Go.Sort Go.Shelf Go.ChangeMaps

theorem Tryz.sortsS (m : Nat) : AnyZ.SortsIn Tryz.prog Tryz.sortedS_ren Fence.wide m :=
  ⟨fun blk off cap ss W hH hblk hsz => callsIn_wide.2 (AnyM.slices_Sort_string Tryz.sortS blk off cap ss W hH hblk hsz),
   fun p cap W => callsIn_wide.2 (AnyM.slices_Sort_string_none Tryz.sortS p cap W)⟩


theorem Tryz.keysH_any (mb : Option Nat) (W : World) : Calls Tryz.prog 107 #[.map mb] W fun e w' => e = .returned (.func (.func 132) #[] #[.pointer (some ⟨W.heap.size, 0, none⟩)]) ∧ w' = W.alloc (.cells #[.map mb] 147) :=
  callsIn_wide.1 (AnyZ.keys_in Tryz.keysH Fence.wide 5 trivial rfl mb W)

set_option maxHeartbeats 1000000 in
theorem Tryz.sortedKeysH {H : Type} (b nn : Nat) (D0 : DataW H) (R : Value → Option (DataW H × List MemPlace)) (w : World) (hown : w.ownsMap Tryz.prog 9 R b nn D0) (hmax : Maps.size D0 ≤ maxLen) (hbytes : Maps.size D0 * 16 ≤ 140737488355328) :
    Calls Tryz.prog 106 #[.func (.func 132) #[] #[.pointer (some ⟨w.heap.size, 0, none⟩)]] (w.alloc (.cells #[.map (some b)] 147)) fun e w' => ∃ (v : Value) (ss : List (List UInt8)), e = .returned v ∧ ss.Perm (strKeys D0) ∧
      w'.ownsRow (w.alloc (.cells #[.map (some b)] 147)).heap.size 9 1 v ss.length ((ss.mergeSort (fun x y => decide (x ≤ y))).map encStr) ∧ (v = .slice none 0 0 ↔ ss = []) ∧ Below (w.alloc (.cells #[.map (some b)] 147)).heap.size (w.alloc (.cells #[.map (some b)] 147)) w' := by
  have hbl := hown.lt
  have hseq : SeqGives Fence.wide 2 Tryz.prog 132 #[.pointer (some ⟨w.heap.size, 0, none⟩)] encStr (fun ss => ss.Perm (strKeys D0)) (Maps.size D0) (w.alloc (.cells #[.map (some b)] 147)) :=
    AnyZ.keys_gives (ρ := Tryz.keysH_ren) { Tryz.keysH with } Fence.wide _ trivial rfl (by omega) w.heap.size b nn D0 _ (by simp) (by simp) (by
      obtain ⟨es, clock, hb, Ft, hs, hD⟩ := hown
      exact ⟨es, clock, (Below.heap_alloc _ _ b hbl).trans hb, Ft, hs, hD⟩)
  exact callsIn_wide.1 (AnyZ.sorted_in Tryz.sortedS Fence.wide 5 trivial trivial trivial trivial rfl (by omega) (Tryz.sortsS _) (enters_of Tryz.func131 (by kernel_rfl) rfl) 132 #[.pointer (some ⟨w.heap.size, 0, none⟩)] trivial (enters_of Tryz.func132 (by kernel_rfl) rfl) _ _ hmax hbytes _ hseq)

theorem YtnaapkoladiomaaGreatDoor.B.keysH0 (b : Nat) (w : World) (h : YtnaapkoladiomaaGreatDoor.B.MapOf w b []) :
    Calls Tryz.prog 106 #[.func (.func 132) #[] #[.pointer (some ⟨w.heap.size, 0, none⟩)]] (w.alloc (.cells #[.map (some b)] 147)) fun e w' => e = .returned (.slice none 0 0) ∧ Below (w.alloc (.cells #[.map (some b)] 147)).heap.size (w.alloc (.cells #[.map (some b)] 147)) w' := by
  obtain ⟨es, clock, hb, he⟩ := h
  have he' : es = #[] := by
    have : es.toList = [] := by simpa using he
    simpa using this
  subst he'
  have hown : w.ownsMap (H := Unit) Tryz.prog 9 (fun _ => none) b 0 (.map []) := ⟨#[], clock, hb, ⟨by simp, MapKept.stamped_empty clock, by simp⟩, Nat.le_refl _, rfl⟩
  refine (Tryz.sortedKeysH b 0 _ _ w hown (by simp [Maps.size]) (by simp [Maps.size])).mono ?_
  rintro e w' ⟨v, ss, rfl, hp, _, hn, hb⟩
  have h0 : ss = [] := by simpa [strKeys] using hp
  rw [hn.2 h0]
  exact ⟨rfl, hb⟩


theorem Tryz.keysD_any (mb : Option Nat) (W : World) : Calls Tryz.prog 109 #[.map mb] W fun e w' => e = .returned (.func (.func 133) #[] #[.pointer (some ⟨W.heap.size, 0, none⟩)]) ∧ w' = W.alloc (.cells #[.map mb] 148) :=
  callsIn_wide.1 (AnyZ.keys_in Tryz.keysD Fence.wide 5 trivial rfl mb W)

set_option maxHeartbeats 1000000 in
theorem Tryz.sortedKeysD {H : Type} (b nn : Nat) (D0 : DataW H) (R : Value → Option (DataW H × List MemPlace)) (w : World) (hown : w.ownsMap Tryz.prog 9 R b nn D0) (hmax : Maps.size D0 ≤ maxLen) (hbytes : Maps.size D0 * 16 ≤ 140737488355328) :
    Calls Tryz.prog 106 #[.func (.func 133) #[] #[.pointer (some ⟨w.heap.size, 0, none⟩)]] (w.alloc (.cells #[.map (some b)] 148)) fun e w' => ∃ (v : Value) (ss : List (List UInt8)), e = .returned v ∧ ss.Perm (strKeys D0) ∧
      w'.ownsRow (w.alloc (.cells #[.map (some b)] 148)).heap.size 9 1 v ss.length ((ss.mergeSort (fun x y => decide (x ≤ y))).map encStr) ∧ (v = .slice none 0 0 ↔ ss = []) ∧ Below (w.alloc (.cells #[.map (some b)] 148)).heap.size (w.alloc (.cells #[.map (some b)] 148)) w' := by
  have hbl := hown.lt
  have hseq : SeqGives Fence.wide 2 Tryz.prog 133 #[.pointer (some ⟨w.heap.size, 0, none⟩)] encStr (fun ss => ss.Perm (strKeys D0)) (Maps.size D0) (w.alloc (.cells #[.map (some b)] 148)) :=
    AnyZ.keys_gives (ρ := Tryz.keysD_ren) { Tryz.keysD with } Fence.wide _ trivial rfl (by omega) w.heap.size b nn D0 _ (by simp) (by simp) (by
      obtain ⟨es, clock, hb, Ft, hs, hD⟩ := hown
      exact ⟨es, clock, (Below.heap_alloc _ _ b hbl).trans hb, Ft, hs, hD⟩)
  exact callsIn_wide.1 (AnyZ.sorted_in Tryz.sortedS Fence.wide 5 trivial trivial trivial trivial rfl (by omega) (Tryz.sortsS _) (enters_of Tryz.func131 (by kernel_rfl) rfl) 133 #[.pointer (some ⟨w.heap.size, 0, none⟩)] trivial (enters_of Tryz.func133 (by kernel_rfl) rfl) _ _ hmax hbytes _ hseq)

theorem YtnaapkoladiomaaGreatDoor.B.keysD0 (b : Nat) (w : World) (h : YtnaapkoladiomaaGreatDoor.B.MapOf w b []) :
    Calls Tryz.prog 106 #[.func (.func 133) #[] #[.pointer (some ⟨w.heap.size, 0, none⟩)]] (w.alloc (.cells #[.map (some b)] 148)) fun e w' => e = .returned (.slice none 0 0) ∧ Below (w.alloc (.cells #[.map (some b)] 148)).heap.size (w.alloc (.cells #[.map (some b)] 148)) w' := by
  obtain ⟨es, clock, hb, he⟩ := h
  have he' : es = #[] := by
    have : es.toList = [] := by simpa using he
    simpa using this
  subst he'
  have hown : w.ownsMap (H := Unit) Tryz.prog 9 (fun _ => none) b 0 (.map []) := ⟨#[], clock, hb, ⟨by simp, MapKept.stamped_empty clock, by simp⟩, Nat.le_refl _, rfl⟩
  refine (Tryz.sortedKeysD b 0 _ _ w hown (by simp [Maps.size]) (by simp [Maps.size])).mono ?_
  rintro e w' ⟨v, ss, rfl, hp, _, hn, hb⟩
  have h0 : ss = [] := by simpa [strKeys] using hp
  rw [hn.2 h0]
  exact ⟨rfl, hb⟩

end Go.Proofs
