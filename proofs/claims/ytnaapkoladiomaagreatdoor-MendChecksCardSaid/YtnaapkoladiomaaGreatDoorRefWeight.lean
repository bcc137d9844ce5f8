/- The document's Weight of a state without holds and remembered requests. -/
import Derived.Test.YtnaapkoladiomaaGreatDoorEmpty
import Derived.Test.YtnaapkoladiomaaGreatDoorState
namespace Go.Proofs.YtnaapkoladiomaaGreatDoor.B
open Go.RowKit

/-- The cells of levels: code, on hand, held. -/
def lvC (l : List (ByteArray × Int × Int)) : List Value := l.flatMap fun x => [.string x.1, .int .i64 x.2.1, .int .i64 x.2.2]
theorem lvC_length (l : List (ByteArray × Int × Int)) : (lvC l).length = 3 * l.length := by
  induction l with
  | nil => rfl
  | cons x r ih => simp [lvC] at ih ⊢; omega
theorem lvC_get (l : List (ByteArray × Int × Int)) (k : Nat) {x : ByteArray × Int × Int} (h : l[k]? = some x) : (lvC l)[k * 3]? = some (.string x.1) ∧ (lvC l)[k * 3 + 1]? = some (.int .i64 x.2.1) ∧ (lvC l)[k * 3 + 2]? = some (.int .i64 x.2.2) := by
  induction l generalizing k with
  | nil => simp at h
  | cons y r ih =>
    cases k with
    | zero => simp at h; subst h; simp [lvC]
    | succ k =>
      simp at h
      obtain ⟨h1, h2, h3⟩ := ih k h
      have e : ∀ j, (lvC (y :: r))[(k + 1) * 3 + j]? = (lvC r)[k * 3 + j]? := by
        intro j
        have : lvC (y :: r) = [.string y.1, .int .i64 y.2.1, .int .i64 y.2.2] ++ lvC r := by simp [lvC]
        rw [this, List.getElem?_append_right (by simp; omega)]
        congr 1
        simp; omega
      exact ⟨by rw [← h1]; exact e 0, by rw [← h2]; exact e 1, by rw [← h3]; exact e 2⟩
theorem lvCells_eq (ss : List ByteArray) : lvCells ss = lvC (ss.map fun s => (s, 0, 0)) := by simp [lvCells, lvC, List.flatMap_map]
abbrev stV (room lsn now : Int) (A : Option Addr) (n c : Nat) : Value := .agg #[.int .i64 room, .int .i64 lsn, .int .i64 now, .slice A n c, .slice none 0 0, .slice none 0 0]
abbrev stC (room lsn now : Int) (A : Option Addr) (n c : Nat) : Array Value := #[.int .i64 room, .int .i64 lsn, .int .i64 now, .slice A n c, .slice none 0 0, .slice none 0 0]

set_option maxRecDepth 100000 in
set_option maxHeartbeats 1000000 in
theorem rweight_any (room lsn now : Int) (A : Option Addr) (n c : Nat) (l : List (ByteArray × Int × Int)) (w : World) (hl : l.length = n) (hn : n ≤ 512) (hs : ∀ x ∈ l, x.1.size ≤ 40) (hr : Rd w 3 A n (lvC l)) :
    Calls Tryz.prog 78 #[stV room lsn now A n c] w fun e w' => e = .returned (.int .i64 (wt0 (l.map (·.1)) : Nat)) ∧ Below w.heap.size w w' := by
  have HL := hide hl
  have HS := hide hs
  have HR := hide hr
  clear hl hs hr
  go_enter Tryz.func78, Tryz.ntmps78
  go_wp2_with fail
  go_loopg [3, 4] n (fun gf m i wr => ∃ k : Nat, n ≤ k + gf ∧ k ≤ n ∧ i = .int .i64 k ∧ m = .int .i64 (wt0 ((l.take k).map (·.1)) : Nat) ∧ w.alloc (.cells (stC room lsn now A n c) 29) = wr)
  case atStart => exact ⟨0, by omega, by omega, rfl, by simp [wt0], rfl⟩
  case round =>
    obtain ⟨k, hg, hk, rfl, rfl, rfl⟩ := hrel
    by_cases hlt : k < n
    · obtain ⟨x, hx⟩ : ∃ x, l[k]? = some x := ⟨l[k]'(by rw [HL.out]; exact hlt), List.getElem?_eq_getElem _⟩
      obtain ⟨g1, g2, g3⟩ := lvC_get l k hx
      obtain ⟨ad, rfl, hc⟩ := (HR.out.below (bA (Below.refl _ _) (.cells (stC room lsn now A n c) 29))).cells (by omega)
      have q1 := hc _ _ g1
      have hsz := HS.out x (List.mem_of_getElem? hx)
      have hwt : wt0 ((l.take k).map (·.1)) ≤ 40000 := by
        have h1 := wt0_le ((l.take k).map (·.1)) (fun y hy => by
          obtain ⟨z, hz, rfl⟩ := List.mem_map.1 hy
          exact HS.out z (List.mem_of_mem_take hz))
        have h2 : ((l.take k).map (·.1)).length ≤ k := by simp; omega
        omega
      have hnx : wt0 ((l.take (k + 1)).map (·.1)) = wt0 ((l.take k).map (·.1)) + (21 + x.1.size) := by
        rw [List.take_add_one, hx]
        simp only [Option.toList_some, List.map_append, List.map_cons, List.map_nil]
        exact wt0_snoc _ _
      have HX := hide hnx
      clear hc g1 g2 g3 hnx hx
      generalize wt0 ((l.take k).map (·.1)) = wt at *
      go_wp2_with fail
      go_roundg (gk - 1)
      case measure => omega
      case rel => exact ⟨k + 1, by omega, by omega, by go_num, by rw [HX.out]; go_num, rfl⟩
    · obtain rfl : k = n := by omega
      have ht : l.take k = l := List.take_of_length_le (by rw [HL.out]; omega)
      rw [ht]
      go_wp2_with fail
      go_loopg [3, 5] 0 (fun gf m i W => i = .int .i64 0 ∧ m = .int .i64 (wt0 (l.map (·.1)) : Nat) ∧ w.alloc (.cells (stC room lsn now A k c) 29) = W)
      case atStart => exact ⟨rfl, by simp, rfl⟩
      case round =>
        obtain ⟨rfl, rfl, rfl⟩ := hrel
        go_wp2_with fail
        go_loopg [3, 6] 0 (fun gf m i W => i = .int .i64 0 ∧ m = .int .i64 (wt0 (l.map (·.1)) : Nat) ∧ w.alloc (.cells (stC room lsn now A k c) 29) = W)
        case atStart => exact ⟨rfl, by simp, rfl⟩
        case round =>
          obtain ⟨rfl, rfl, rfl⟩ := hrel
          go_wp2_with fail
          go_ret
          exact ⟨rfl, bA (Below.refl _ _) _⟩
end Go.Proofs.YtnaapkoladiomaaGreatDoor.B
