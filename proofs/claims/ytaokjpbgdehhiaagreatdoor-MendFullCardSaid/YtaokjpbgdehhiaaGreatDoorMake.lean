/- Bytes made anew. -/
import Derived.Test.YtaokjpbgdehhiaaGreatDoorAppend
import Derived.Test.YtaokjpbgdehhiaaGreatDoorEmpty
import Derived.Laws.MakeOwn
import Derived.Laws.CopyOwn
namespace Go.Proofs.YtaokjpbgdehhiaaGreatDoor.B
open Go.RowKit

theorem Rd.of_blk {w : World} {g n : Nat} {t : TypeId} {cs : Array Value} {xs : List Value} (h : Blk w g t cs) (hx : cs.toList = xs) (hn : xs.length = n) : Rd w 1 (some ⟨g, 0, none⟩) n xs := by
  refine ⟨by simp [hn], fun _ => ⟨_, rfl, fun j u hu => ?_⟩⟩
  have e : (⟨g, 0, none⟩ : Addr).add j = ⟨g, j, none⟩ := by unfold Addr.add; split <;> simp_all
  rw [e, h.cell j, ← hu, ← hx, Array.getElem?_toList]
/-- Zero bytes. -/
def zeros (n : Nat) : List Value := List.replicate n (.int .u8 0)
theorem zeros_one (n : Nat) : ∀ u ∈ zeros n, u.oneCell' = true := by
  intro u hu
  rw [(List.mem_replicate.1 hu).2]; rfl
theorem make_bytes (n : Nat) (hn : n ≤ 1099511627776) : ∃ Z : Array Value, Z.toList = zeros n ∧
    ∀ w : World, (Instr.makeSlice 26 (.int .i64 (n : Int)) (.int .i64 (n : Int))).run Tryz.prog w = .ok (.slice (some ⟨w.heap.size, 0, none⟩) n n) (w.alloc (.cells Z 5)) := by
  obtain ⟨i, hi, hz⟩ := Option.map_eq_some_iff.1 info_u8
  simp only [Prod.mk.injEq] at hz
  obtain ⟨h0, h1, h2⟩ := hz
  refine ⟨madeCells (Value.int .u8 0).cells (n * i.size), ?_, fun w => ?_⟩
  · have e : (Value.int .u8 0).cells = #[Value.int .u8 0] := rfl
    rw [e, h1, madeCells]
    apply List.ext_getElem
    · simp [zeros]
    · intro k g1 g2
      simp [zeros, Nat.mod_one]
  · have := run_make (P := Tryz.prog) w 26 5 i _ Tryz.underlying26 hi h0 .i64 .i64 n n (by omega) (Int.le_refl _) (by rw [h2]; omega) (by omega)
    simpa using this

end Go.Proofs.YtaokjpbgdehhiaaGreatDoor.B
