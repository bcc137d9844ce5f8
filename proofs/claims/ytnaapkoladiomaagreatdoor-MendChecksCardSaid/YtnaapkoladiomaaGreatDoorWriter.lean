/- The codec's writer: what each step lays behind the bytes that it has. -/
import Derived.Test.YtnaapkoladiomaaGreatDoorWord
import Derived.Deep.RegionLaw
namespace Go.Proofs.YtnaapkoladiomaaGreatDoor.B
open Go.RowKit

/-- What a step of the writer at W leaves as it was: all but the writer's cell and the row v. -/
structure Two (W : Nat) (v : Value) (w w' : World) : Prop where
  os : w'.os = w.os
  tape : w'.tape = w.tape
  output : w'.output = w.output
  size : w.heap.size ≤ w'.heap.size
  block : ∀ b, b < w.heap.size → b ≠ W → some b ≠ v.ownBlock → w'.heap[b]? = w.heap[b]?
theorem Two.refl (W : Nat) (v : Value) (w : World) : Two W v w w := ⟨rfl, rfl, rfl, Nat.le_refl _, fun _ _ _ _ => rfl⟩
theorem Two.of_below {W : Nat} {v : Value} {w w' : World} (h : Below w.heap.size w w') : Two W v w w' := ⟨h.os, h.tape, h.output, h.size, fun b hb _ _ => h.block b hb⟩
/-- A row's block is the old one's or new. -/
def Next (w : World) (v v' : Value) : Prop := v'.ownBlock = v.ownBlock ∨ ∀ q, v'.ownBlock = some q → w.heap.size ≤ q
theorem Next.refl (w : World) (v : Value) : Next w v v := .inl rfl
theorem Next.ne {w : World} {v v' : Value} (h : Next w v v') {b : Nat} (hb : b < w.heap.size) (hv : some b ≠ v.ownBlock) : some b ≠ v'.ownBlock := by
  rcases h with h | h
  · rw [h]; exact hv
  · intro e
    have := h b e.symm
    omega
theorem Next.trans {w w1 : World} {v v1 v2 : Value} (h1 : Next w v v1) (h2 : Next w1 v1 v2) (hs : w.heap.size ≤ w1.heap.size) : Next w v v2 := by
  rcases h2 with h | h
  · rcases h1 with h' | h'
    · exact .inl (h.trans h')
    · exact .inr fun q hq => h' q (h ▸ hq)
  · exact .inr fun q hq => Nat.le_trans hs (h q hq)
theorem Two.trans {W : Nat} {v v1 : Value} {w w1 w2 : World} (h1 : Two W v w w1) (hn : Next w v v1) (h2 : Two W v1 w1 w2) : Two W v w w2 :=
  ⟨h2.os.trans h1.os, h2.tape.trans h1.tape, h2.output.trans h1.output, Nat.le_trans h1.size h2.size, fun b hb hW hv =>
    (h2.block b (Nat.lt_of_lt_of_le hb h1.size) hW (hn.ne hb hv)).trans (h1.block b hb hW hv)⟩
/-- The writer at W holds the bytes l, in the row v. -/
structure Wr (base W : Nat) (v : Value) (l : List Nat) (w : World) : Prop where
  blk : Blk w W 132 #[v]
  own : w.ownsRow base 5 1 v l.length (bv l)
  ne : some W ≠ v.ownBlock
  base : base ≤ w.heap.size
theorem Wr.below {base W : Nat} {v : Value} {l : List Nat} {w w' : World} (h : Wr base W v l w) (hb : Below w.heap.size w w') : Wr base W v l w' :=
  ⟨h.blk.below hb, own_below h.own hb, h.ne, Nat.le_trans h.base hb.size⟩
/-- A step of the writer that lays x. -/
def Wrote (base W : Nat) (v : Value) (l : List Nat) (w : World) (e : Ending) (w' : World) : Prop :=
  e = .returned (.tuple #[]) ∧ ∃ v', Wr base W v' l w' ∧ Two W v w w' ∧ Next w v v'
/-- A cell that no step of the writer turns. -/
def Safe (W : Nat) (v : Value) (w : World) (b : Nat) (t : TypeId) (cs : Array Value) : Prop := Blk w b t cs ∧ b ≠ W ∧ some b ≠ v.ownBlock
theorem Safe.step {W : Nat} {v v' : Value} {w w' : World} {b : Nat} {t : TypeId} {cs : Array Value} (h : Safe W v w b t cs) (h2 : Two W v w w') (hn : Next w v v') : Safe W v' w' b t cs :=
  ⟨h.1.move (h2.block b h.1.lt h.2.1 h.2.2), h.2.1, hn.ne h.1.lt h.2.2⟩

/-- What the writer's own region does: the bytes of a row that was just made, behind its own. -/
theorem Wr.laid {base W : Nat} {v : Value} {l x : List Nat} {w w1 w2 : World} (h : Wr base W v l w) (hb : Below w.heap.size w w1) {g' cap : Nat}
    (hown : w2.ownsRow base 5 1 (.slice (some ⟨g', 0, none⟩) (l.length + x.length) cap) (l.length + x.length) (bv l ++ bv x)) (hg : w1.grownBy w2 v.ownBlock) (hat : v.ownBlock = some g' ∨ g' = w1.heap.size) :
    Wrote base W v (l ++ x) w (.returned (.tuple #[])) (w2.setCell ⟨W, 0, none⟩ (.slice (some ⟨g', 0, none⟩) (l.length + x.length) cap)) := by
  have hW1 := h.blk.below hb
  have hW2 := hW1.grown hg h.ne
  have hne : W ≠ g' := by
    intro e
    rcases hat with h1 | h1
    · exact h.ne (e ▸ h1.symm)
    · have := hW1.lt; omega
  have hsz := Nat.le_trans hb.size hg.size
  refine ⟨rfl, .slice (some ⟨g', 0, none⟩) (l.length + x.length) cap, ⟨?_, ?_, ?_, ?_⟩, ⟨?_, ?_, ?_, ?_, ?_⟩, ?_⟩
  · have := hW2.set_ 0 (.slice (some ⟨g', 0, none⟩) (l.length + x.length) cap)
    simpa using this
  · rw [← bv_append] at hown
    rw [List.length_append]
    exact own_move (v := .slice (some ⟨g', 0, none⟩) (l.length + x.length) cap) hown (fun q hq => Below.heap_setCell _ _ _ _ (by simp [Value.ownBlock] at hq; simp; omega))
  · simp [Value.ownBlock]; exact hne
  · simp only [World.setCell, Array.size_modify]
    exact Nat.le_trans h.base hsz
  · exact hg.os.trans hb.os
  · exact hg.tape.trans hb.tape
  · exact hg.output.trans hb.output
  · simp only [World.setCell, Array.size_modify]
    exact hsz
  · intro b hlt hbW hbv
    rw [Below.heap_setCell _ _ _ _ (by simpa using hbW), hg.block b (Nat.lt_of_lt_of_le hlt hb.size) hbv, hb.block b hlt]
  · rcases hat with h1 | h1
    · exact .inl (by rw [h1]; rfl)
    · exact .inr fun q hq => by
        simp [Value.ownBlock] at hq
        have := hb.size
        omega

set_option maxRecDepth 100000 in
set_option maxHeartbeats 1600000 in
theorem wint_any (base W n : Nat) (v : Value) (l : List Nat) (w : World) (h : Wr base W v l w) (hn : n < 4611686018427387904) (hl : l.length ≤ 1099511627776) :
    Calls Tryz.prog 50 #[.pointer (some ⟨W, 0, none⟩), .int .i64 (n : Int)] w (Wrote base W v (l ++ grp (2 * n)) w) := by
  obtain ⟨i0, hi0, hz0, hz1, hz2⟩ := info_parts info_u8
  have c0 : w.cell? ⟨W, 0, none⟩ = some v := h.blk.cell 0
  have f0 : w.frozen? ⟨W, 0, none⟩ = false := h.blk.frozen 0
  have H := hide h
  have hl2 := grp_len (2 * n)
  clear h
  go_enter Tryz.func50, Tryz.ntmps50
  go_wp2_with fail
  go_region_law
    (first
      | (refine step_append_lies _ (by rfl) _ _ _ (by rfl) base 5 i0 _ 1 1 Tryz.underlying32 hi0 hz0 hz1 hz2 rfl (by omega) v l.length (bv l) (by rfl) HA.out ⟨g, 0, none⟩ (grp (2 * n)).length c (bv (grp (2 * n))) (by rfl) (by simp) HC.out (bv_one _) (by omega) (by simp only [maxLen]; omega) (by omega) HS.out w2.heap.size rfl ?_; intro g' cap wx hown1 hgrow hat hlt'
         have cx : wx.cell? ⟨W, 0, none⟩ = some v := (HB.out.grown hgrow H.out.ne).cell 0
         have fx : wx.frozen? ⟨W, 0, none⟩ = false := (HB.out.grown hgrow H.out.ne).frozen 0)
      | (go_simp; go_at_call 83; refine (putInt_nil n _ hn).mono ?_; rintro e w2 ⟨⟨g, c, rfl, hown⟩, hb2⟩
         have c2 : w2.cell? ⟨W, 0, none⟩ = some v := bget hb2 c0
         have HB := hide (H.out.blk.below (bT (bD (Below.refl w.heap.size w)) hb2))
         have HA := hide (own_below H.out.own (bT (bD (Below.refl w.heap.size w)) hb2))
         have HC := hide (hown.cells (g := g) rfl)
         have HS := hide (Nat.le_trans H.out.base (bT (bD (Below.refl w.heap.size w)) hb2).size)))
  all_goals
    go_end0
    exact H.out.laid (bT (bD (Below.refl w.heap.size w)) hb2) hown1 hgrow hat
set_option maxRecDepth 100000 in
set_option maxHeartbeats 1600000 in
theorem wtext_any (base W : Nat) (s : ByteArray) (v : Value) (l : List Nat) (w : World) (h : Wr base W v l w) (hs : s.size ≤ 1000000000) (hl : l.length ≤ 1099511627776) :
    Calls Tryz.prog 54 #[.pointer (some ⟨W, 0, none⟩), .string s] w (Wrote base W v (l ++ (grp s.size ++ sb s)) w) := by
  obtain ⟨x, hx⟩ : ∃ x, x = grp s.size ++ sb s := ⟨_, rfl⟩
  have hp := hide (fun w => putText_nil s w hs)
  have hl2 : 1 ≤ x.length ∧ x.length ≤ 1000000010 := by have := grp_len s.size; rw [hx]; simp; omega
  rw [← hx] at hp ⊢
  clear hx
  obtain ⟨i0, hi0, hz0, hz1, hz2⟩ := info_parts info_u8
  have c0 : w.cell? ⟨W, 0, none⟩ = some v := h.blk.cell 0
  have f0 : w.frozen? ⟨W, 0, none⟩ = false := h.blk.frozen 0
  have H := hide h
  
  clear h
  go_enter Tryz.func54, Tryz.ntmps54
  go_wp2_with fail
  go_region_law
    (first
      | (refine step_append_lies _ (by rfl) _ _ _ (by rfl) base 5 i0 _ 1 1 Tryz.underlying32 hi0 hz0 hz1 hz2 rfl (by omega) v l.length (bv l) (by rfl) HA.out ⟨g, 0, none⟩ x.length c (bv x) (by rfl) (by simp) HC.out (bv_one _) (by omega) (by simp only [maxLen]; omega) (by omega) HS.out w2.heap.size rfl ?_; intro g' cap wx hown1 hgrow hat hlt'
         have cx : wx.cell? ⟨W, 0, none⟩ = some v := (HB.out.grown hgrow H.out.ne).cell 0
         have fx : wx.frozen? ⟨W, 0, none⟩ = false := (HB.out.grown hgrow H.out.ne).frozen 0)
      | (go_simp; go_at_call 87; refine (hp.out _).mono ?_; rintro e w2 ⟨⟨g, c, rfl, hown⟩, hb2⟩
         have c2 : w2.cell? ⟨W, 0, none⟩ = some v := bget hb2 c0
         have HB := hide (H.out.blk.below (bT (bD (Below.refl w.heap.size w)) hb2))
         have HA := hide (own_below H.out.own (bT (bD (Below.refl w.heap.size w)) hb2))
         have HC := hide (hown.cells (g := g) rfl)
         have HS := hide (Nat.le_trans H.out.base (bT (bD (Below.refl w.heap.size w)) hb2).size)))
  all_goals
    go_end0
    exact H.out.laid (bT (bD (Below.refl w.heap.size w)) hb2) hown1 hgrow hat
end Go.Proofs.YtnaapkoladiomaaGreatDoor.B
