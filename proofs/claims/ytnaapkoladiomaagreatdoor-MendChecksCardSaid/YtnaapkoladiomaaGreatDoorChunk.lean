/- slices.Chunk of bytes, by 128: what its iterator hands to the loop's body. -/
import Derived.Test.YtnaapkoladiomaaGreatDoorWord
import Derived.RangeFuncNested
import Derived.RangeFuncBound
import Derived.RangeFuncCalls
import Derived.RangeFuncLeaves
import Derived.RangeFuncFrom
import Derived.Shelf.Abstract
import Derived.OwnWalkIn
import Derived.TacticsInMore
import Derived.LoopNIn
import Derived.LoopIn
namespace Go.Proofs.YtnaapkoladiomaaGreatDoor.B
open Go.RowKit Go.Shelf

attribute [local go_sem] Oper.semAt_some

/-- A piece's number, of N bytes. -/
abbrev Ck (N : Nat) := { k : Nat // 128 * k < N }
def nums {N : Nat} (l : List (Ck N)) : List Nat := l.map (·.1)
theorem nums_snoc {N : Nat} (l : List (Ck N)) (x : Ck N) : nums (l ++ [x]) = nums l ++ [x.1] := by simp [nums]
theorem nums_length {N : Nat} (l : List (Ck N)) : (nums l).length = l.length := by simp [nums]
/-- The piece. -/
def piece (g N : Nat) (x : Ck N) : Array Value := #[.slice (some ⟨g, 128 * x.1, none⟩) (min 128 (N - 128 * x.1)) (min 128 (N - 128 * x.1))]

set_option maxRecDepth 100000 in
set_option maxHeartbeats 4000000 in
theorem chunk1_in (F : Fence) (n : Nat) (h7 : F.fn 61) (hro : F.round = none) (hn : 1 ≤ n) (l B1 B2 g N cap : Nat) (hN : N ≤ 131072) (hcap : N ≤ cap) (_hcm : cap ≤ 9223372036854775807) (Kp : World → World → Prop)
    (hKp : ∀ A B, Kp A B → B.cell? ⟨B1, 0, none⟩ = A.cell? ⟨B1, 0, none⟩ ∧ B.cell? ⟨B2, 0, none⟩ = A.cell? ⟨B2, 0, none⟩) (J Jx : List (Ck N) → World → Prop)
    (hY : ∀ pre x W, J pre W → pre.length < N → YieldAt F (n - 1) Tryz.prog l (piece g N x) W fun e W' =>
      (e = .returned (.bool true) ∧ J (pre ++ [x]) W' ∧ Kp W W') ∨ (e = .returned (.bool false) ∧ Jx (pre ++ [x]) W'))
    (hAb : ∀ pre W, J pre W → J pre W.drew)
    (W : World) (h1 : W.cell? ⟨B1, 0, none⟩ = some (.slice (some ⟨g, 0, none⟩) N cap)) (h2 : W.cell? ⟨B2, 0, none⟩ = some (.int .i64 128)) (h0 : J [] W) :
    CallsIn F n Tryz.prog 61 #[.func (.yield l) #[] #[], .pointer (some ⟨B1, 0, none⟩), .pointer (some ⟨B2, 0, none⟩)] W fun e W' => (∃ v, e = .returned v) ∧
      ((∃ ys : List (Ck N), nums ys = List.range ((N + 127) / 128) ∧ J ys W') ∨ (∃ pre, (∃ k, nums pre = List.range k) ∧ Jx pre W')) := by
  refine callsIn_of_wp Tryz.func61 rfl h7 ?_ hro
  simp only [Tryz.ntmps61, List.size_toArray, List.length_cons, List.length_nil, Nat.reduceAdd, Nat.reduceSub, Array.replicate_succ, Array.replicate_zero, List.push_toArray, List.append_toArray, List.nil_append, List.cons_append]
  gi_wp2
  gi_loopw [4] (fun i wr => ∃ (k : Nat) (pre : List (Ck N)), 128 * k ≤ N + 127 ∧ i = .int .i64 ((128 * k : Nat) : Int) ∧ nums pre = List.range k ∧ J pre wr ∧ wr.cell? ⟨B1, 0, none⟩ = some (.slice (some ⟨g, 0, none⟩) N cap) ∧ wr.cell? ⟨B2, 0, none⟩ = some (.int .i64 128))
    (fun i _ => N + 128 - (intOf i).toNat)
  case atStart => exact ⟨0, [], by omega, rfl, rfl, h0, h1, h2⟩
  case round =>
    obtain ⟨k, pre, hk, rfl, hp, hJs, c1, c2⟩ := hrel
    have hlen : pre.length = k := by have := congrArg List.length hp; rw [nums_length] at this; simpa using this
    by_cases hlt : 128 * k < N
    · obtain ⟨fn, tmps, assign, body, hy, hR⟩ := hY pre ⟨k, hlt⟩ wr.drew (hAb _ _ hJs) (by omega)
      unfold piece at hy
      dsimp only at hy
      obtain ⟨m, hm⟩ : ∃ m, m = min 128 (N - 128 * k) := ⟨_, rfl⟩
      rw [← hm] at hy
      have hif : (if ((N - 128 * k : Nat) : Int) < 128 then ((N - 128 * k : Nat) : Int) else 128) = (m : Int) := by split <;> omega
      have m1 : 1 ≤ m := by omega
      have m2 : 128 * k + m ≤ N := by omega
      have e1 : 128 * (k : Int) < (N : Int) := by omega
      have e2 : ¬ cap = 128 * k := by omega
      clear hm
      gi_wp2
      gi_region
      all_goals gi_wp2
      all_goals
        refine hR.mono ?_
        rintro e W3 (⟨rfl, hJ3, hk3⟩ | ⟨rfl, hJx3⟩)
        · obtain ⟨q1, q2⟩ := hKp _ _ hk3
          have d1 : W3.cell? ⟨B1, 0, none⟩ = some (.slice (some ⟨g, 0, none⟩) N cap) := q1.trans c1
          have d2 : W3.cell? ⟨B2, 0, none⟩ = some (.int .i64 128) := q2.trans c2
          clear q1 q2 c1 c2
          gi_wp2
          go_roundw
          case rel => exact ⟨k + 1, pre ++ [⟨k, hlt⟩], by omega, by rw [show ((128 * (k + 1) : Nat) : Int) = 128 * (k : Int) + 128 by omega], by rw [nums_snoc, hp, List.range_succ], hJ3, d1, d2⟩
          case measure => simp [intOf]; omega
        · gi_wp2
          refine bodyPost_ret (results_none rfl _ _ _) rfl ?_
          exact ⟨⟨_, rfl⟩, .inr ⟨_, ⟨k + 1, by rw [nums_snoc, hp, List.range_succ]⟩, hJx3⟩⟩
    · have e1 : ¬ 128 * (k : Int) < (N : Int) := by omega
      have hk2 : k = (N + 127) / 128 := by omega
      gi_wp2
      go_end0
      exact ⟨⟨_, rfl⟩, .inl ⟨pre, by rw [hp, hk2], hJs⟩⟩
end Go.Proofs.YtnaapkoladiomaaGreatDoor.B
