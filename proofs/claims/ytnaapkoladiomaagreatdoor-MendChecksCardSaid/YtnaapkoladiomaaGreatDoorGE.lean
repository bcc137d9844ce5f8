/- Contracts of functions of the program, walked, and plain laws. -/
import Derived.Test.YtnaapkoladiomaaGreatDoorLayout
/- Plain laws: a header's bytes in one row; the sum bit by bit is the sum by half bytes. -/
namespace Go.Proofs.YtnaapkoladiomaaGreatDoor.B

/-- Zeros. -/
def zs (n : Nat) : List Nat := List.replicate n 0
theorem zs_length (n : Nat) : (zs n).length = n := by simp [zs]
theorem zs_drop (n m : Nat) : (zs n).drop m = zs (n - m) := by simp [zs, List.drop_replicate]
theorem zs_add (n m : Nat) : zs (n + m) = zs n ++ zs m := by simp [zs, List.replicate_append_replicate]
theorem lay_at (A x : List Nat) (n k : Nat) (hA : A.length = k) : lay (A ++ zs n) k x = A ++ (x ++ zs (n - x.length)) := by
  subst hA
  unfold lay splice
  rw [List.take_left' rfl, List.drop_append, List.drop_eq_nil_of_le (by omega), List.nil_append, zs_drop]
  congr 3
  omega
theorem fill_nil : fill [] = zs 128 := by simp only [fill, zs, List.nil_append, List.length_nil, Nat.sub_zero]
theorem hd4_eq (a b c : Nat) : hd4 a b c = le 8 a ++ (le 8 b ++ (le 8 c ++ (zs 96 ++ le 8 a))) := by
  have h1 : hd1 a = le 8 a ++ zs 120 := by
    unfold hd1
    rw [fill_nil]
    have := lay_at [] (le 8 a) 128 0 rfl
    simpa only [List.nil_append, le_length] using this
  have h2 : hd2 a b = (le 8 a ++ le 8 b) ++ zs 112 := by
    unfold hd2
    rw [h1, lay_at _ _ _ 8 (le_length _ _), le_length, List.append_assoc]
  have h3 : hd3 a b c = (le 8 a ++ le 8 b ++ le 8 c) ++ zs 104 := by
    unfold hd3
    rw [h2, lay_at _ _ _ 16 (by simp only [List.length_append, le_length]), le_length]
    simp only [List.append_assoc]
  unfold hd4
  rw [h3, show 104 = 96 + 8 from rfl, zs_add, ← List.append_assoc, lay_at _ _ _ 120 (by simp only [List.length_append, le_length, zs_length]), le_length]
  simp only [List.append_assoc]
  rw [show zs (8 - 8) = [] from rfl, List.append_nil]

/-- A register one bit on. -/
def step1 (r : Nat) : Nat := if r % 2 = 1 then (r / 2) ^^^ 2197175160 else r / 2
theorem xor_lc (a b c : Nat) : a ^^^ (b ^^^ c) = b ^^^ (a ^^^ c) := by rw [← Nat.xor_assoc, Nat.xor_comm a b, Nat.xor_assoc]
theorem xor_cancel (a b : Nat) : a ^^^ (a ^^^ b) = b := by rw [← Nat.xor_assoc, Nat.xor_self, Nat.zero_xor]
theorem half_xor (a b : Nat) : (a ^^^ b) / 2 = (a / 2) ^^^ (b / 2) := by
  have h : ∀ n : Nat, n / 2 = n >>> 1 := fun n => (Nat.shiftRight_eq_div_pow n 1).symm
  rw [h, h, h, Nat.shiftRight_xor_distrib]
theorem step1_xor (a b : Nat) : step1 (a ^^^ b) = step1 a ^^^ step1 b := by
  have h : (a ^^^ b) % 2 = (a % 2) ^^^ (b % 2) := Nat.xor_mod_two_pow (n := 1)
  have ha : a % 2 = 0 ∨ a % 2 = 1 := by omega
  have hb : b % 2 = 0 ∨ b % 2 = 1 := by omega
  unfold step1
  rw [half_xor]
  rcases ha with ha | ha <;> rcases hb with hb | hb <;> rw [ha, hb] at h <;> rw [h, ha, hb] <;> simp [Nat.xor_assoc, Nat.xor_comm, xor_lc, xor_cancel]
theorem step1_even (q : Nat) : step1 (2 * q) = q := by
  unfold step1
  rw [if_neg (by omega)]; omega
theorem step4_low : ∀ b, b < 16 → step1 (step1 (step1 (step1 b))) = tab b := by decide +kernel
theorem split16 (r : Nat) : r = (r % 16) ^^^ (2 * (2 * (2 * (2 * (r / 16))))) := by
  have e : 2 * (2 * (2 * (2 * (r / 16)))) = (r / 16) <<< 4 := by rw [Nat.shiftLeft_eq]; omega
  rw [e]
  apply Nat.eq_of_testBit_eq
  intro i
  rw [Nat.testBit_xor, Nat.testBit_shiftLeft, show 16 = 2 ^ 4 from rfl, Nat.testBit_mod_two_pow, Nat.testBit_div_two_pow]
  by_cases hi : i < 4
  · simp [hi, show ¬ 4 ≤ i by omega]
  · simp [hi, show 4 ≤ i by omega, show i - 4 + 4 = i by omega]
theorem nib_eq (r : Nat) : step1 (step1 (step1 (step1 r))) = nib r := by
  conv => lhs; rw [split16 r]
  rw [step1_xor, step1_xor, step1_xor, step1_xor, step4_low _ (by omega), step1_even, step1_even, step1_even, step1_even]
  rfl
/-- Eight bits on. -/
def step8 (r : Nat) : Nat := step1 (step1 (step1 (step1 (step1 (step1 (step1 (step1 r)))))))
theorem step8_eq (r : Nat) : step8 r = nib (nib r) := by
  unfold step8
  rw [nib_eq r, nib_eq]
end Go.Proofs.YtnaapkoladiomaaGreatDoor.B
/- The image of a new store: plain laws, and mend.Format. -/
namespace Go.Proofs.YtnaapkoladiomaaGreatDoor.B
open Go.RowKit Go.Shelf

/-- What is written for a checkpoint: the sectors and their bytes. -/
def wsN (s epoch : Nat) (x : List Nat) : List (Nat × List Nat) :=
  (List.range ((x.length + 127) / 128)).map (fun j => (s + 1 + j, fill (chunk x j))) ++ [(s, hd4 epoch x.length (crcN x))]
/-- Writes laid over zeros. -/
def imgN (N : Nat) (T : List (Nat × List Nat)) : List Nat := T.foldl (fun a p => lay a (128 * p.1) p.2) (zs N)
theorem img_snoc (N : Nat) (T : List (Nat × List Nat)) (p : Nat × List Nat) : imgN N (T ++ [p]) = lay (imgN N T) (128 * p.1) p.2 := by simp [imgN, List.foldl_append]
theorem wsN_len (s epoch : Nat) (x : List Nat) : (wsN s epoch x).length = (x.length + 127) / 128 + 1 := by simp [wsN]
theorem hd4_len (a b c : Nat) : (hd4 a b c).length = 128 := by rw [hd4_eq]; simp only [List.length_append, le_length, zs_length]
theorem wsN_at {s epoch k q : Nat} {x y : List Nat} (h : (wsN s epoch x)[k]? = some (q, y)) :
    y.length = 128 ∧ q ≤ s + (x.length + 127) / 128 := by
  unfold wsN at h
  by_cases hk : k < (x.length + 127) / 128
  · rw [List.getElem?_append_left (by simpa using hk)] at h
    simp [hk] at h
    obtain ⟨rfl, rfl⟩ := h
    exact ⟨fill_length _ (by rw [chunk_len]; exact Nat.min_le_left _ _), by omega⟩
  · rw [List.getElem?_append_right (by simpa using hk)] at h
    have hl := (List.getElem?_eq_some_iff.1 h).1
    simp at hl
    have hl : k - (x.length + 127) / 128 = 0 := by omega
    simp only [List.length_map, List.length_range, hl] at h
    simp at h
    obtain ⟨rfl, rfl⟩ := h
    exact ⟨hd4_len _ _ _, by omega⟩
theorem img_len (N : Nat) (T : List (Nat × List Nat)) (h : ∀ p ∈ T, 128 * p.1 + p.2.length ≤ N) : (imgN N T).length = N := by
  have aux : ∀ (T : List (Nat × List Nat)) (a : List Nat), (∀ p ∈ T, 128 * p.1 + p.2.length ≤ a.length) → (T.foldl (fun a p => lay a (128 * p.1) p.2) a).length = a.length := by
    intro T
    induction T with
    | nil => intro a _; rfl
    | cons p r ih =>
      intro a ha
      have e := lay_length a (128 * p.1) p.2 (ha p (by simp))
      rw [List.foldl_cons, ih _ (fun q hq => by rw [e]; exact ha q (by simp [hq])), e]
  unfold imgN
  rw [aux T _ (by simpa [zs_length] using h), zs_length]
theorem ws_fits {s epoch se : Nat} {x : List Nat} (h : s + (x.length + 127) / 128 + 1 ≤ se) (k : Nat) : (imgN (se * 128) ((wsN s epoch x).take k)).length = se * 128 := by
  refine img_len _ _ fun p hp => ?_
  have hp := List.mem_of_mem_take hp
  obtain ⟨j, hj⟩ := List.getElem?_of_mem hp
  obtain ⟨h1, h2⟩ := wsN_at (q := p.1) (y := p.2) hj
  rw [h1]
  omega
theorem wrC_len (s : Int) (gs : List Nat) : (wrC s gs).length = gs.length * 2 := by
  induction gs generalizing s with
  | nil => rfl
  | cons g r ih => simp only [wrC, List.length_append, ih, List.length_cons, List.length_nil]; omega
theorem wrC_get (s : Int) (gs : List Nat) (k b : Nat) (h : gs[k]? = some b) : (wrC s gs)[k * 2]? = some (.int .i64 (s + k)) ∧ (wrC s gs)[k * 2 + 1]? = some (.slice (some ⟨b, 0, none⟩) 128 128) := by
  induction gs generalizing s k with
  | nil => simp at h
  | cons g r ih =>
    cases k with
    | zero => simp at h; subst h; simp [wrC]
    | succ k =>
      obtain ⟨h1, h2⟩ := ih (s + 1) k (by simpa using h)
      have e1 : (k + 1) * 2 = k * 2 + 2 := by omega
      have e2 : (k + 1) * 2 + 1 = (k * 2 + 1) + 2 := by omega
      simp only [wrC]
      rw [List.getElem?_append_right (by simp only [List.length_cons, List.length_nil]; omega), List.getElem?_append_right (by simp only [List.length_cons, List.length_nil]; omega)]
      refine ⟨?_, ?_⟩
      · rw [show (k + 1) * 2 - ([Value.int .i64 s, .slice (some ⟨g, 0, none⟩) 128 128] : List Value).length = k * 2 by simp only [List.length_cons, List.length_nil]; omega, h1]
        congr 2; omega
      · rw [show (k + 1) * 2 + 1 - ([Value.int .i64 s, .slice (some ⟨g, 0, none⟩) 128 128] : List Value).length = k * 2 + 1 by simp only [List.length_cons, List.length_nil]; omega, h2]
/-- All writes' cells: the body's, and the head's behind them. -/
def allC (s : Nat) (gs : List Nat) (g : Nat) : List Value := wrC ((s : Int) + 1) gs ++ [.int .i64 (s : Int), .slice (some ⟨g, 0, none⟩) 128 128]
theorem LO.cells {B epoch g s : Nat} {x gs : List Nat} {v : Value} {W : World} (h : LO B (s : Int) epoch x g gs v W) {k q : Nat} {y : List Nat} (hk : (wsN s epoch x)[k]? = some (q, y)) :
    ∃ b, (allC s gs g)[k * 2]? = some (.int .i64 (q : Int)) ∧ (allC s gs g)[k * 2 + 1]? = some (.slice (some ⟨b, 0, none⟩) 128 128) ∧ Blk W b 5 (bv y).toArray := by
  unfold wsN at hk
  unfold allC
  by_cases hlt : k < (x.length + 127) / 128
  · rw [List.getElem?_append_left (by simpa using hlt)] at hk
    simp [hlt] at hk
    obtain ⟨rfl, rfl⟩ := hk
    have hb : k < gs.length := by rw [h.len]; exact hlt
    obtain ⟨h1, h2⟩ := wrC_get ((s : Int) + 1) gs k gs[k] (List.getElem?_eq_getElem hb)
    refine ⟨gs[k], ?_, ?_, h.pieces k _ (List.getElem?_eq_getElem hb)⟩
    · rw [List.getElem?_append_left (by rw [wrC_len]; omega), h1]
      simp only [Int.natCast_add]
      congr 2
    · rw [List.getElem?_append_left (by rw [wrC_len]; omega), h2]
  · rw [List.getElem?_append_right (by simpa using hlt)] at hk
    have hl := (List.getElem?_eq_some_iff.1 hk).1
    simp at hl
    have hl : k - (x.length + 127) / 128 = 0 := by omega
    simp only [List.length_map, List.length_range, hl] at hk
    simp at hk
    obtain ⟨rfl, rfl⟩ := hk
    have hk2 : k = gs.length := by rw [h.len]; omega
    refine ⟨g, ?_, ?_, h.head⟩
    · rw [List.getElem?_append_right (by rw [wrC_len]; omega), wrC_len, show k * 2 - gs.length * 2 = 0 by omega]; rfl
    · rw [List.getElem?_append_right (by rw [wrC_len]; omega), wrC_len, show k * 2 + 1 - gs.length * 2 = 1 by omega]; rfl

/-- One copy of bytes onto a row, in a region that draws: no other block turns. -/
theorem step_copy_on {ops : Array Oper} {o : Oper} {a : Act} {w : World} {K : Act → World → Prop} {Q : Exit → Act → World → Prop} {E : Prop} (hgd : o.guard = none) (d s : Operand) (dT sT : TypeId)
    (ho : o.op = .call { callee := .builtin .copy, args := #[d, s], argTypes := #[dT, sT] }) (elem : TypeId) (hu : Tryz.prog.underlying dT = some (.slice elem)) (hsz : (Tryz.prog.info? elem).map (·.size) = some 1)
    (g off : Nat) (ad : Addr) (dLen dCap sLen sCap : Nat) (hd : a.eval d = .slice (some ⟨g, off, none⟩) dLen dCap) (hs : a.eval s = .slice (some ad) sLen sCap)
    (cur : List Value) (t : TypeId) (hg : w.heap[g]? = some (.cells cur.toArray t (0, 0))) (cs : List Value) (hn : cs.length = Nat.min sLen dLen)
    (hsrc : ∀ j v, cs[j]? = some v → w.cell? (ad.add j) = some v) (hfit : off + cs.length ≤ cur.length) (h1 : ∀ v ∈ cs, v.oneCell' = true)
    (h : ∀ w', Hid (w'.heap[g]? = some (.cells (splice cur off cs).toArray t (0, 0))) → Hid (w.grownBy w' (some g)) → K (a.put o.dst (goInt cs.length)) w') :
    if Region.wanted o (yielded ops a.tmps) = true then Oper.wp Tryz.prog o a w K Q else E := by
  have hw : Region.wanted o (yielded ops a.tmps) = true := by simp [Region.wanted, hgd]
  rw [if_pos hw]
  have hrun := run_copy_row (P := Tryz.prog) w dT sT o.type elem g off dLen dCap ad sLen sCap cur.toArray t cs hu hsz hg hn hsrc (by simpa using hfit) h1
  unfold Oper.wp
  simp [execOp, ho, resolve, invoke, builtin, hd, hs, hrun, Result.andThen]
  exact h _ (show _ = _ by simpa [splice] using setRow_heap w g _ _ t _ hg) (show World.grownBy _ _ _ from ⟨rfl, rfl, rfl, by simp [World.setRow], fun k _ hk => setRow_other w g k _ (fun e => hk (by rw [e]))⟩)

/-- What holds when k writes are laid. -/
structure FI (w0 W0 : World) (gi gv se s epoch : Nat) (x : List Nat) (k : Nat) (wr : World) : Prop where
  img : Blk wr gi 5 (bv (imgN (se * 128) ((wsN s epoch x).take k))).toArray
  low : Below w0.heap.size w0 wr
  size : W0.heap.size ≤ wr.heap.size
  row : ∀ (j q : Nat) (y : List Nat), (wsN s epoch x)[j]? = some (q, y) → ∃ b, wr.cell? ⟨gv, j * 2, none⟩ = some (.int .i64 (q : Int)) ∧ wr.cell? ⟨gv, j * 2 + 1, none⟩ = some (.slice (some ⟨b, 0, none⟩) 128 128) ∧ Blk wr b 5 (bv y).toArray ∧ b ≠ gi
theorem take_one {α : Type} {l : List α} {k : Nat} {a : α} (h : l[k]? = some a) : l.take (k + 1) = l.take k ++ [a] := by
  rw [List.take_add_one, h]; rfl
theorem FI.step {w0 W0 wr W W' : World} {gi gv se s epoch k q : Nat} {x y : List Nat} (h : FI w0 W0 gi gv se s epoch x k wr) (hgi : w0.heap.size ≤ gi) (hv : gv ≠ gi) (hk : (wsN s epoch x)[k]? = some (q, y)) (hb : Below wr.heap.size wr W) (hg : W.grownBy W' (some gi))
    (hi : Blk W' gi 5 (bv (lay (imgN (se * 128) ((wsN s epoch x).take k)) (128 * q) y)).toArray) : FI w0 W0 gi gv se s epoch x (k + 1) W' := by
  refine ⟨?_, ?_, Nat.le_trans h.size (Nat.le_trans hb.size hg.size), ?_⟩
  · rw [take_one hk, img_snoc]; exact hi
  · have := h.low.trans (hb.mono h.low.size)
    exact this.trans ⟨hg.os, hg.tape, hg.output, hg.size, fun j hj => hg.block j (Nat.lt_of_lt_of_le hj this.size) (fun e => by cases e; omega)⟩
  · intro j q' y' hj
    obtain ⟨b, h1, h2, h3, h4⟩ := h.row j q' y' hj
    have e1 := bget hb h1
    have e2 := bget hb h2
    have hc : W'.heap[gv]? = W.heap[gv]? := hg.block gv (World.block_lt_of_cell? W _ e1) (fun e => hv (by injection e))
    refine ⟨b, ?_, ?_, (h3.below hb).grown hg (fun e => h4 (by injection e)), h4⟩
    · rw [World.cell?_of_block (w := W) hc]; exact e1
    · rw [World.cell?_of_block (w := W) hc]; exact e2
theorem FI.start {w w2 W5 : World} {B g gv se s cap5 : Nat} {gs : List Nat} {x : List Nat} {v6 : Value} {Z : Array Value} {o1 o3 : Obj} (hlo : LO B (s : Int) 1 x g gs v6 w2) (hb2 : Below w.heap.size w w2) (hB : w.heap.size ≤ B) (hZ : Z.toList = zeros (se * 128))
    (hg : (((w2.alloc o1).alloc (.cells Z 5)).alloc o3).grownBy W5 v6.ownBlock)
    (hown : W5.ownsRow B 34 2 (.slice (some ⟨gv, 0, none⟩) (gs.length + 1) cap5) (gs.length + 1) (allC s gs g))
    (hat : (Value.slice (some ⟨gv, 0, none⟩) (gs.length + 1) cap5).ownBlock = v6.ownBlock ∨ (Value.slice (some ⟨gv, 0, none⟩) (gs.length + 1) cap5).ownBlock = some (((w2.alloc o1).alloc (.cells Z 5)).alloc o3).heap.size) :
    FI w W5 (w2.heap.size + 1) gv se s 1 x 0 W5 ∧ gv ≠ w2.heap.size + 1 := by
  have hv : gv ≠ w2.heap.size + 1 := by
    rcases hat with h | h
    · have := own_lt hlo.row gv (h ▸ rfl)
      omega
    · simp [Value.ownBlock] at h
      omega
  have hne : ∀ b cs, Blk w2 b 5 cs → some b ≠ v6.ownBlock := by
    intro b cs hb e
    rcases hlo.row.2 with ⟨rfl, _⟩ | ⟨q, _, cur, rfl, _, hh, _⟩
    · simp [Value.ownBlock] at e
    · simp [Value.ownBlock] at e
      subst e
      unfold Blk at hb
      rw [hh] at hb
      simp at hb
  refine ⟨⟨?_, ?_, Nat.le_refl _, ?_⟩, hv⟩
  · have h1 := Blk.new1 (w := w2.alloc o1) (g := w2.heap.size + 1) (by simp) 5 Z
    have h2 := (h1.alloc o3).grown hg (fun e => by have := own_lt hlo.row _ e.symm; omega)
    have e : Z = (bv (imgN (se * 128) ((wsN s 1 x).take 0))).toArray := by
      rw [List.take_zero, ← Array.toArray_toList (xs := Z), hZ, zeros_bv]; rfl
    rw [← e]; exact h2
  · refine (hb2.trans ((bA (bA (bA (Below.refl w2.heap.size w2) o1) (.cells Z 5)) o3).mono hb2.size)).trans ⟨hg.os, hg.tape, hg.output, hg.size, fun k hk => hg.block k (by have := hb2.size; simp; omega) (fun e => ?_)⟩
    have := own_base hlo.row _ e.symm
    omega
  · intro j q y hj
    obtain ⟨b, h1, h2, h3⟩ := hlo.cells hj
    have hc := hown.cells (g := gv) rfl
    have ea : ∀ m : Nat, (⟨gv, 0, none⟩ : Addr).add m = ⟨gv, m, none⟩ := fun m => by unfold Addr.add; split <;> simp_all
    refine ⟨b, by rw [← ea]; exact hc _ _ h1, by rw [← ea]; exact hc _ _ h2, ?_, by have := h3.lt; omega⟩
    exact (((h3.alloc o1).alloc _).alloc o3).grown hg (hne _ _ h3)
end Go.Proofs.YtnaapkoladiomaaGreatDoor.B
/- mend.Format. -/
namespace Go.Proofs.YtnaapkoladiomaaGreatDoor.B
open Go.RowKit Go.Shelf

theorem new_facts {ss : List ByteArray} {room : Int} (h : newE ss room = 0) : 1 ≤ ss.length ∧ ss.length ≤ 512 ∧ 0 ≤ room ∧ room ≤ 131072 ∧ ss.all (okText · 40) = true ∧ rise ss = true ∧ (wt0 ss : Int) ≤ room := by
  unfold newE at h
  split at h
  · omega
  rename_i h1
  split at h
  · omega
  rename_i h2
  split at h
  · omega
  rename_i h3
  split at h
  · omega
  rename_i h4
  split at h
  · omega
  rename_i h5
  refine ⟨by omega, by omega, by omega, by omega, ?_, ?_, by omega⟩
  · simpa using h3
  · simpa using h4
theorem empty_facts {ss : List ByteArray} {st hd se sl : Int} (h : emptyE ss st hd se sl = 0) : 1 ≤ st ∧ st ≤ 64 ∧ 1 ≤ hd ∧ hd ≤ 16 ∧ 2 ≤ sl ∧ sl ≤ 1024 ∧ 2 * sl + 1 ≤ se ∧ se ≤ 4096 ∧ roomOf sl = (sl - 1) * 128 ∧ newE ss (roomOf sl) = 0 := by
  unfold emptyE at h
  split at h
  · omega
  rename_i h1
  split at h
  · omega
  rename_i h2
  have h3 : 2 ≤ sl ∧ sl ≤ 1024 := by
    by_cases hs : sl < 2 ∨ 1024 < sl
    · exact absurd (.inl (by simp [roomOf, hs])) h2
    · omega
  refine ⟨by omega, by omega, by omega, by omega, h3.1, h3.2, by omega, by omega, ?_, h⟩
  unfold roomOf
  rw [if_neg (by omega)]
theorem mendEmpty_no (A : Option Addr) (n c : Nat) (ss : List ByteArray) (st hd se sl : Int) (w : World) (hl : ss.length = n) (hn : n ≤ 9223372036854775807) (hr : Rd w 1 A n (strs ss)) (h : emptyE ss st hd se sl ≠ 0) :
    Calls Tryz.prog 43 #[cfgV A n c st hd se sl] w fun e w' => e = .returned (.tuple #[noState, .int .i64 (emptyE ss st hd se sl)]) ∧ Below w.heap.size w w' := by
  refine (mendEmpty_any A n c ss st hd se sl w hl hn hr).mono ?_
  rintro e w1 ⟨hb, ⟨_, h1⟩ | ⟨h1, _⟩⟩
  · exact ⟨h1, hb⟩
  · exact absurd h1 h
theorem mendEmpty_ok (A : Option Addr) (n c : Nat) (ss : List ByteArray) (st hd se sl : Int) (w : World) (hl : ss.length = n) (hn : n ≤ 9223372036854775807) (hr : Rd w 1 A n (strs ss)) (h : emptyE ss st hd se sl = 0) :
    Calls Tryz.prog 43 #[cfgV A n c st hd se sl] w fun e w' => (∃ A1 c1, e = .returned (.tuple #[newState (roomOf sl) (.slice A1 n c1), .int .i64 0]) ∧ Rd w' 3 A1 n (lvCells ss)) ∧ Below w.heap.size w w' := by
  refine (mendEmpty_any A n c ss st hd se sl w hl hn hr).mono ?_
  rintro e w1 ⟨hb, ⟨h1, _⟩ | ⟨_, v, h1, h2⟩⟩
  · exact absurd h h1
  · obtain ⟨A1, c1, rfl, hc⟩ := own_slice h2
    rw [hl] at h1 h2
    exact ⟨⟨A1, c1, h1, Rd.of_own h2⟩, hb⟩
theorem body_small {ss : List ByteArray} {sl : Int} (h1 : 2 ≤ sl ∧ sl ≤ 1024) (hR : roomOf sl = (sl - 1) * 128) (hn : newE ss (roomOf sl) = 0) :
    (84 :: stB (roomOf sl).toNat 0 0 (lv0s ss)).length ≤ (roomOf sl).toNat ∧ (roomOf sl).toNat = (sl.toNat - 1) * 128 := by
  obtain ⟨h2, h3, h4, h5, h6, h7, h8⟩ := new_facts hn
  have := st0_bytes (roomOf sl).toNat ss (fun s hs => size_of_ok (List.all_eq_true.1 h6 s hs)) (by omega) h3
  omega
/-- The bytes of a new store's state. -/
def body0 (ss : List ByteArray) (sl : Int) : List Nat := 84 :: stB (roomOf sl).toNat 0 0 (lv0s ss)
def FmtPost (ss : List ByteArray) (st hd se sl : Int) (w : World) (e : Ending) (w' : World) : Prop :=
  Below w.heap.size w w' ∧ ((emptyE ss st hd se sl ≠ 0 ∧ e = .returned (.tuple #[.slice none 0 0, .int .i64 (emptyE ss st hd se sl)])) ∨
    (emptyE ss st hd se sl = 0 ∧ ∃ g, e = .returned (.tuple #[.slice (some ⟨g, 0, none⟩) (se.toNat * 128) (se.toNat * 128), .int .i64 0]) ∧
      Rd w' 1 (some ⟨g, 0, none⟩) (se.toNat * 128) (bv (imgN (se.toNat * 128) (wsN sl.toNat 1 (body0 ss sl))))))
theorem layout1 (A A1 : Option Addr) (n c c1 : Nat) (st hd se : Int) (sl : Nat) (ss : List ByteArray) (w : World) (hT : TabAt w) (hl : ss.length = n) (hE : emptyE ss st hd se sl = 0) (hr : Rd w 1 A n (strs ss)) (hr3 : Rd w 3 A1 n (lvCells ss)) :
    Calls Tryz.prog 6 #[cfgV A n c st hd se sl, .int .i64 1, newState (roomOf sl) (.slice A1 n c1)] w (LayPost w (sl : Int) 1 (body0 ss sl)) := by
  obtain ⟨a1, a2, a3, a4, a5, a6, a7, a8, a9, a10⟩ := empty_facts hE
  obtain ⟨b1, b2, b3, b4, b5, b6, b7⟩ := new_facts a10
  obtain ⟨st', rfl⟩ := Int.eq_ofNat_of_zero_le (show 0 ≤ st by omega)
  obtain ⟨hd', rfl⟩ := Int.eq_ofNat_of_zero_le (show 0 ≤ hd by omega)
  have := layout0 A A1 n c c1 st' hd' 1 se sl ss w hT hl (by omega) (by omega) hE ⟨by omega, by omega⟩ (by omega) b5 b6 b7 hr hr3
  rw [show ((1 : Nat) : Int) % 2 * (sl : Int) = (sl : Int) by omega] at this
  exact this

set_option maxRecDepth 100000 in
set_option maxHeartbeats 3200000 in
theorem fmt_no (A : Option Addr) (n c : Nat) (ss : List ByteArray) (st hd se sl : Int) (w : World) (hl : ss.length = n) (hn : n ≤ 9223372036854775807) (hr : Rd w 1 A n (strs ss)) (hE : emptyE ss st hd se sl ≠ 0) :
    Calls Tryz.prog 13 #[cfgV A n c st hd se sl] w (FmtPost ss st hd se sl w) := by
  have H := mendEmpty_no A n c ss st hd se sl (w.alloc (.cells (cfgC A n c st hd se sl) 24)) hl hn (hr.below (bA (Below.refl _ _) _)) hE
  have HE := hide hE
  have H0 := hide hE
  have HP := hide (show ∀ e w', e = .returned (.tuple #[.slice none 0 0, .int .i64 (emptyE ss st hd se sl)]) → Below w.heap.size w w' → FmtPost ss st hd se sl w e w' from fun e w' h hb => ⟨hb, .inl ⟨hE, h⟩⟩)
  generalize emptyE ss st hd se sl = E at H hE HP
  clear hr hl
  go_enter Tryz.func13, Tryz.ntmps13
  go_wp2_with fail
  refine H.mono ?_
  rintro e w1 ⟨rfl, hb1⟩
  have HB := hide (bT (bA (Below.refl w.heap.size w) _) hb1)
  clear H hb1
  go_wp2_with fail
  go_ret2
  exact HP.out _ _ rfl (bA HB.out _)

set_option maxRecDepth 100000 in
set_option maxHeartbeats 6400000 in
theorem fmt_ok (A : Option Addr) (n c : Nat) (ss : List ByteArray) (st hd : Int) (se sl : Nat) (w : World) (hT : TabAt w) (hl : ss.length = n) (hn : n ≤ 9223372036854775807) (hr : Rd w 1 A n (strs ss)) (hE : emptyE ss st hd se sl = 0) :
    Calls Tryz.prog 13 #[cfgV A n c st hd se sl] w (FmtPost ss st hd se sl w) := by
  obtain ⟨a1, a2, a3, a4, a5, a6, a7, a8, a9, a10⟩ := empty_facts hE
  obtain ⟨y1, y2⟩ := body_small ⟨a5, a6⟩ a9 a10
  have y3 : (body0 ss sl).length ≤ (roomOf sl).toNat := y1
  obtain ⟨hse, hms⟩ : se ≤ 4096 ∧ sl + ((body0 ss sl).length + 127) / 128 + 1 ≤ se := by omega
  have H := mendEmpty_ok A n c ss st hd se sl (w.alloc (.cells (cfgC A n c st hd se sl) 24)) hl hn (hr.below (bA (Below.refl _ _) _)) hE
  have HL := hide hl
  have HE := hide hE
  have HT0 := hide (hT.below (bA (Below.refl w.heap.size w) (.cells (cfgC A n c st hd se sl) 24)))
  have HR0 := hide (hr.below (bA (Below.refl w.heap.size w) (.cells (cfgC A n c st hd se sl) 24)))
  have HP := hide (show ∀ g w', Below w.heap.size w w' → Rd w' 1 (some ⟨g, 0, none⟩) (se * 128) (bv (imgN (se * 128) (wsN sl 1 (body0 ss sl)))) → FmtPost ss st hd se sl w (.returned (.tuple #[.slice (some ⟨g, 0, none⟩) (se * 128) (se * 128), .int .i64 0])) w' from
    fun g w' hb hr => ⟨hb, .inr ⟨hE, g, rfl, hr⟩⟩)
  obtain ⟨x, hx⟩ : ∃ x, x = body0 ss sl := ⟨_, rfl⟩
  rw [← hx] at hms HP
  have HX := hide hx
  clear hr hl hT hE a1 a2 a3 a4 a5 a6 a7 a8 a9 a10 y1 y2 y3 hx
  obtain ⟨Z, hZ, hmk⟩ := make_bytes (se * 128) (by omega)
  go_enter Tryz.func13, Tryz.ntmps13
  go_wp2_with fail
  refine H.mono ?_
  rintro e w1 ⟨⟨A1, c1, rfl, hr1⟩, hb1⟩
  have HB1 := hide (bT (bA (Below.refl w.heap.size w) _) hb1)
  have HT1 := hide (HT0.out.below (w' := w1.alloc (.cells (stC (roomOf sl) 0 0 A1 n c1) 29)) (bA hb1 _))
  have HR1 := hide (HR0.out.below (w' := w1.alloc (.cells (stC (roomOf sl) 0 0 A1 n c1) 29)) (bA hb1 _))
  have HR3 := hide (hr1.below (bA (Below.refl w1.heap.size w1) (.cells (stC (roomOf sl) 0 0 A1 n c1) 29)))
  have HC1 := hide ((Blk.new1 (w := w) rfl 24 (cfgC A n c st hd se sl)).below hb1)
  have c0 : w1.cell? ⟨w.heap.size, 0, none⟩ = some (.slice A n c) := HC1.out.cell 0
  have c1_ : w1.cell? ⟨w.heap.size, 1, none⟩ = some (.int .i64 st) := HC1.out.cell 1
  have c2 : w1.cell? ⟨w.heap.size, 2, none⟩ = some (.int .i64 hd) := HC1.out.cell 2
  have c3 : w1.cell? ⟨w.heap.size, 3, none⟩ = some (.int .i64 (se : Int)) := HC1.out.cell 3
  have c4 : w1.cell? ⟨w.heap.size, 4, none⟩ = some (.int .i64 (sl : Int)) := HC1.out.cell 4
  have lC1 : w.heap.size < w1.heap.size := HC1.out.lt
  clear H hb1 hr1 HT0 HR0
  go_wp2_with fail
  refine (layout1 A A1 n c c1 st hd se sl ss _ HT1.out HL.out HE.out HR1.out HR3.out).mono ?_
  rintro e w2 ⟨⟨g, gs, A6, c6, rfl, hlo⟩, hb2⟩
  rw [← HX.out] at hlo
  have hH : ∃ W0 : World, W0 = w2 := ⟨_, rfl⟩
  have D3 := bget hb2 (bget (bA (Below.refl w1.heap.size w1) (.cells (stC (roomOf sl) 0 0 A1 n c1) 29)) c3)
  have HB2 := hide (bT (bA HB1.out (.cells (stC (roomOf sl) 0 0 A1 n c1) 29)) hb2)
  have lC3 : w1.heap.size + 1 ≤ w2.heap.size := by simpa using hb2.size
  have lC2 : w.heap.size < w2.heap.size := Nat.lt_of_lt_of_le lC1 (Nat.le_trans (by simp) hb2.size)
  have hmk' : ∀ w : World, (Instr.makeSlice 32 (.int .i64 ((se : Int) * 128)) (.int .i64 ((se : Int) * 128))).run Tryz.prog w = .ok (.slice (some ⟨w.heap.size, 0, none⟩) (se * 128) (se * 128)) (w.alloc (.cells Z 5)) := fun w => hmk w
  have hlo : LO (w1.heap.size + 1) (sl : Int) 1 x g gs (.slice A6 gs.length c6) w2 := by simpa using hlo
  have HLo := hide hlo
  clear hb2 hlo c0 c1_ c2 c3 c4 HT1 HR1 HR3 HC1 hmk hH
  have hgl : gs.length ≤ 4096 := by have := HLo.out.len; omega
  have hq : ∀ o1 o2 : Obj, Rd (((w2.alloc o1).alloc o2).alloc (.cells #[.int .i64 (sl : Int), .slice (some ⟨g, 0, none⟩) 128 128] 34)) 2 (some ⟨w2.heap.size + 1 + 1, 0, none⟩) 1 [.int .i64 (sl : Int), .slice (some ⟨g, 0, none⟩) 128 128] := fun o1 o2 => by
    have hb := Blk.new1 (w := (w2.alloc o1).alloc o2) (g := w2.heap.size + 1 + 1) (by simp) 34 #[.int .i64 (sl : Int), .slice (some ⟨g, 0, none⟩) 128 128]
    refine ⟨rfl, fun _ => ⟨_, rfl, fun j u hu => ?_⟩⟩
    have e1 : (⟨w2.heap.size + 1 + 1, 0, none⟩ : Addr).add j = ⟨w2.heap.size + 1 + 1, j, none⟩ := by unfold Addr.add; split <;> simp_all
    rw [e1, hb.cell j, ← hu]
    simp
  have hrow : ∀ o1 o2 o3 : Obj, (((w2.alloc o1).alloc o2).alloc o3).ownsRow (w1.heap.size + 1) 34 2 (.slice A6 gs.length c6) gs.length (wrC ((sl : Int) + 1) gs) := fun o1 o2 o3 => own_below HLo.out.row (bA (bA (bA (Below.refl _ _) o1) o2) o3)
  go_wp2_with (at_builtin; refine wpList_append_rd _ rfl (.tmp 33) (.tmp 35) 31 rfl (w1.heap.size + 1) 34 _ 2 32 Tryz.underlying31 info_write rfl (by decide) rfl (hrow _ _ _) rfl (hq _ _) ?c0 ?c1 ?c2 ?c3 ?_; (case c0 => intro u hu; simp at hu; rcases hu with rfl | rfl <;> rfl); (case c1 => simp only [maxLen]; omega); (case c2 => omega); (case c3 => simp; omega); intro v5 w5 hown5 hg5 hat5; obtain ⟨gv, cap5, hcap5, _⟩ := hown5.form (by omega); subst hcap5; obtain ⟨hfi, hv⟩ := FI.start (x := x) HLo.out HB2.out (by omega) hZ hg5 hown5 hat5; have HFI := hide hfi; have HV := hide hv; clear hfi hv hown5 hg5 hat5)
  have hm : (wsN sl 1 x).length = gs.length + 1 := by rw [wsN_len, HLo.out.len]
  clear hq hrow hmk' hZ D3 HB2 HLo HB1
  go_loopg [38] (gs.length + 1) (fun gf i wr => ∃ k : Nat, gs.length + 1 ≤ k + gf ∧ k ≤ gs.length + 1 ∧ i = .int .i64 (k : Int) ∧ FI w w5 (w2.heap.size + 1) gv se sl 1 x k wr)
  case atStart => exact ⟨0, by omega, by omega, rfl, HFI.out⟩
  case round =>
    obtain ⟨k, hg, hk, rfl, hfi⟩ := hrel
    have HI := hide hfi
    clear hfi
    by_cases hlt : k < gs.length + 1
    · obtain ⟨⟨q, y⟩, hqy⟩ : ∃ p, (wsN sl 1 x)[k]? = some p := ⟨_, List.getElem?_eq_getElem (by omega)⟩
      obtain ⟨b, r1, r2, r3, r4⟩ := HI.out.row k q y hqy
      obtain ⟨hy, hq⟩ := wsN_at hqy
      have hqs : q + 1 ≤ se := by omega
      have hlk : (k : Int) < (gs.length : Int) + 1 := by omega
      have hq1 : (q : Int) * 128 ≤ (se : Int) * 128 := by omega
      have hq2 : ¬ (se * 128 = q * 128) := by omega
      have hw : IntKind.i64.wrap ((q : Int) * 128) = (q : Int) * 128 := IntWalk.i64_in _ (by omega)
      have hz0 : 0 ≤ (q : Int) * 128 := by omega
      have hz1 : q ≤ se := by omega
      have hz2 : ((q : Int) * 128).toNat = q * 128 := by omega
      have hz3 : ¬ se = q := by omega
      go_wp2_with fail
      have HG := hide (show ∀ o : Obj, (wr.alloc o).drew.heap[w2.heap.size + 1]? = some (.cells (bv (imgN (se * 128) ((wsN sl 1 x).take k))).toArray 5 (0, 0)) from fun o => HI.out.img.alloc o)
      have HM := hide (show (bv y).length = Nat.min 128 (se * 128 - q * 128) by rw [bv_length, hy]; exact (Nat.min_eq_left (by omega)).symm)
      have HF := hide (show q * 128 + (bv y).length ≤ (bv (imgN (se * 128) ((wsN sl 1 x).take k))).length by rw [bv_length, bv_length, hy, ws_fits hms]; omega)
      have HS := hide (show ∀ o : Obj, ∀ j v, (bv y)[j]? = some v → (wr.alloc o).drew.cell? ((⟨b, 0, none⟩ : Addr).add j) = some v from fun o j v hv => by
        have e1 : (⟨b, 0, none⟩ : Addr).add j = ⟨b, j, none⟩ := by unfold Addr.add; split <;> simp_all
        rw [e1, (Blk.drew_ (r3.alloc o)).cell j, ← hv]
        simp)
      have HQ := hide hqy
      have HQs := hide hqs
      have HR4 := hide r4
      clear r3 hqy
      go_region_law (refine step_copy_on (by rfl) (.tmp 46) (.tmp 48) 32 32 (by rfl) 5 Tryz.underlying32 size_u8 (w2.heap.size + 1) (q * 128) ⟨b, 0, none⟩ (se * 128 - q * 128) (se * 128 - q * 128) 128 128 (by rfl) (by rfl) (bv (imgN (se * 128) ((wsN sl 1 x).take k))) 5 (HG.out _) (bv y) HM.out (HS.out _) HF.out (bv_one _) ?_; intro wx hh1 hb1)
      all_goals go_wp2_with fail
      all_goals go_roundg (gk - 1)
      all_goals first
        | omega
        | (refine ⟨k + 1, by omega, by omega, by go_num, ?_⟩
           refine HI.out.step (by omega) HV.out HQ.out (bD (bA (Below.refl wr.heap.size wr) (.cells #[.int .i64 (q : Int), .slice (some ⟨b, 0, none⟩) 128 128] 34))) hb1.out ?_
           have := hh1.out
           rw [splice_bv, Nat.mul_comm q 128] at this
           exact this)
    · obtain rfl : k = gs.length + 1 := by omega
      have hi := HI.out.img
      rw [List.take_of_length_le (by omega)] at hi
      have hlen : (imgN (se * 128) (wsN sl 1 x)).length = se * 128 := by
        have := ws_fits (epoch := 1) hms (wsN sl 1 x).length
        rwa [List.take_of_length_le (Nat.le_refl _)] at this
      have hres := HP.out (w2.heap.size + 1) wr HI.out.low (Rd.of_blk hi (by simp) (by simp [hlen]))
      have HRes := hide hres
      clear hres hi hlen HP
      go_wp2_with fail
      go_ret2
      exact HRes.out
theorem fmt_any (A : Option Addr) (n c : Nat) (ss : List ByteArray) (st hd se sl : Int) (w : World) (hT : TabAt w) (hl : ss.length = n) (hn : n ≤ 9223372036854775807) (hr : Rd w 1 A n (strs ss)) :
    Calls Tryz.prog 13 #[cfgV A n c st hd se sl] w (FmtPost ss st hd se sl w) := by
  by_cases hE : emptyE ss st hd se sl = 0
  · obtain ⟨a1, a2, a3, a4, a5, a6, a7, a8, a9, a10⟩ := empty_facts hE
    obtain ⟨se', rfl⟩ := Int.eq_ofNat_of_zero_le (show 0 ≤ se by omega)
    obtain ⟨sl', rfl⟩ := Int.eq_ofNat_of_zero_le (show 0 ≤ sl by omega)
    exact fmt_ok A n c ss st hd se' sl' w hT hl hn hr hE
  · exact fmt_no A n c ss st hd se sl w hl hn hr hE
end Go.Proofs.YtnaapkoladiomaaGreatDoor.B
