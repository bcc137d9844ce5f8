/- What is left as it was but for some blocks; a disk as it lies in memory. -/
import Derived.Test.YtaokjpbgdehhiaaGreatDoorWord
namespace Go.Proofs.YtaokjpbgdehhiaaGreatDoor.B
open Go.RowKit

/-- All blocks but those of D are what they were. -/
structure Keep (D : List Nat) (w w' : World) : Prop where
  os : w'.os = w.os
  tape : w'.tape = w.tape
  output : w'.output = w.output
  size : w.heap.size ≤ w'.heap.size
  block : ∀ b, b < w.heap.size → b ∉ D → w'.heap[b]? = w.heap[b]?
namespace Keep
variable {D D' : List Nat} {w w1 w2 : World}
theorem refl (D : List Nat) (w : World) : Keep D w w := ⟨rfl, rfl, rfl, Nat.le_refl _, fun _ _ _ => rfl⟩
theorem below (hb : Below w.heap.size w w1) : Keep D w w1 := ⟨hb.os, hb.tape, hb.output, hb.size, fun b h _ => hb.block b h⟩
theorem trans (h : Keep D w w1) (k : Keep D' w1 w2) (hD : ∀ b, b < w.heap.size → b ∈ D' → b ∈ D) : Keep D w w2 :=
  ⟨k.os.trans h.os, k.tape.trans h.tape, k.output.trans h.output, Nat.le_trans h.size k.size, fun b hb hn => (k.block b (Nat.lt_of_lt_of_le hb h.size) (fun hd => hn (hD b hb hd))).trans (h.block b hb hn)⟩
theorem thenBelow (h : Keep D w w1) (hb : Below w1.heap.size w1 w2) : Keep D w w2 := h.trans (D' := D) (below hb) (fun _ _ h => h)
theorem grown {row : Option Nat} (hg : w.grownBy w1 row) (hr : ∀ b, row = some b → b ∈ D) : Keep D w w1 :=
  ⟨hg.os, hg.tape, hg.output, hg.size, fun b hb hn => hg.block b hb (fun e => hn (hr b e.symm))⟩
theorem set {q o : Nat} (hq : q ∈ D) (u : Value) : Keep D w (w.setCell ⟨q, o, none⟩ u) :=
  ⟨rfl, rfl, rfl, by simp [World.setCell], fun b _ hn => Below.heap_setCell _ _ _ _ (fun e => hn (by simp only at e; exact e ▸ hq))⟩
theorem drew : Keep D w w.drew := below (bD (Below.refl _ _))
/-- What lies below is as it was, if D lies above. -/
theorem low {B : Nat} (h : Keep D w w1) (hB : B ≤ w.heap.size) (hD : ∀ b ∈ D, B ≤ b) : Below B w w1 :=
  ⟨h.os, h.tape, h.output, h.size, fun b hb => h.block b (Nat.lt_of_lt_of_le hb hB) (fun hd => by have := hD b hd; omega)⟩
end Keep
theorem Blk.keep {D : List Nat} {w w1 : World} {g : Nat} {t : TypeId} {cs : Array Value} (h : Blk w g t cs) (k : Keep D w w1) (hg : g ∉ D) : Blk w1 g t cs := h.move (k.block g h.lt hg)
theorem Rd.keep {D : List Nat} {w w1 : World} {size n : Nat} {A : Option Addr} {xs : List Value} (h : Rd w size A n xs) (k : Keep D w w1) (hg : ∀ ad, A = some ad → ad.block ∉ D) : Rd w1 size A n xs := by
  refine ⟨h.len, fun hn => ?_⟩
  obtain ⟨ad, e, hc⟩ := h.cells hn
  refine ⟨ad, e, fun j u hu => ?_⟩
  have h1 := hc j u hu
  have hl := World.block_lt_of_cell? w _ h1
  rw [World.cell?_of_block (w := w) (by rw [block_add] at hl ⊢; exact k.block _ hl (hg ad e))]
  exact h1
theorem own_keep {D : List Nat} {w w1 : World} {base n size : Nat} {t : TypeId} {v : Value} {xs : List Value} (h : w.ownsRow base t size v n xs) (k : Keep D w w1) (hg : ∀ q, v.ownBlock = some q → q ∉ D) : w1.ownsRow base t size v n xs :=
  own_move h (fun q hq => k.block q (own_lt h q hq) (hg q hq))
end Go.Proofs.YtaokjpbgdehhiaaGreatDoor.B
