/- mend.Layout of a new ledger's state. -/
import Derived.Test.YtnaapkoladiomaaGreatDoorChunkB
import Derived.Test.YtnaapkoladiomaaGreatDoorGoes
import Derived.Test.YtnaapkoladiomaaGreatDoorCrc
import Derived.Test.YtnaapkoladiomaaGreatDoorSector
import Derived.Test.YtnaapkoladiomaaGreatDoorPutState
import Derived.Test.YtnaapkoladiomaaGreatDoorCheck
import Derived.Test.YtnaapkoladiomaaGreatDoorRound
import Derived.Great.Frames
namespace Go.Proofs.YtnaapkoladiomaaGreatDoor.B
open Go.RowKit Go.Shelf

attribute [local go_sem] Oper.semAt_some

theorem grpF_small (k n m : Nat) (h : n < 128 ^ (m + 1)) (hm : m ≤ k) : (grpF k n).length ≤ m + 1 := by
  induction m generalizing k n with
  | zero => rw [grpF_lt k n (by simpa using h)]; simp
  | succ m ih =>
    by_cases hlt : n < 128
    · rw [grpF_lt k n hlt]; simp
    · cases k with
      | zero => omega
      | succ k =>
        rw [grpF_ge k n hlt]
        have h2 : n / 128 < 128 ^ (m + 1) := by
          rw [Nat.pow_succ] at h
          exact Nat.div_lt_of_lt_mul (by rw [Nat.mul_comm]; exact h)
        have := ih k (n / 128) h2 (by omega)
        simp; omega
/-- A new ledger's levels. -/
abbrev lv0s (ss : List ByteArray) : List (ByteArray × Int × Int) := ss.map fun s => (s, 0, 0)
theorem lv0_bytes (ss : List ByteArray) (h : ∀ s ∈ ss, s.size ≤ 40) (a : Nat) : ((lv0s ss).flatMap lvB).length + a ≤ ss.foldl (fun n s => n + (21 + s.size)) a := by
  induction ss generalizing a with
  | nil => simp
  | cons s r ih =>
    have h1 := ih (fun x hx => h x (by simp [hx])) (a + (21 + s.size))
    have h2 := grpF_small 9 s.size 0 (by have := h s (by simp); omega) (by omega)
    have h3 : (lvB (s, 0, 0)).length ≤ s.size + 3 := by
      have e : grp (2 * (0 : Int).toNat) = [0] := rfl
      simp only [lvB, e, List.length_append, sb_length, List.length_cons, List.length_nil]
      unfold grp
      omega
    simp only [lv0s, List.foldl_cons, List.map_cons, List.flatMap_cons, List.length_append] at h1 ⊢
    omega
theorem st0_bytes (R : Nat) (ss : List ByteArray) (h : ∀ s ∈ ss, s.size ≤ 40) (hR : R ≤ 131072) (hn : ss.length ≤ 512) : (84 :: stB R 0 0 (lv0s ss)).length ≤ wt0 ss := by
  have h1 := lv0_bytes ss h 64
  have h2 := grpF_small 9 (2 * R) 2 (by omega) (by omega)
  have h3 := grpF_small 9 ss.length 1 (by omega) (by omega)
  have e : grp (2 * 0) = [0] := rfl
  unfold wt0
  simp only [stB, e, List.length_cons, List.length_append, List.length_nil, List.length_map]
  unfold grp
  omega
theorem grpF_byte (k n : Nat) (h : n < 128 ^ (k + 1)) : ∀ b ∈ grpF k n, b < 256 := by
  induction k generalizing n with
  | zero => intro b hb; simp [grpF] at hb; subst hb; simp at h; omega
  | succ k ih =>
    intro b hb
    by_cases hlt : n < 128
    · rw [grpF_lt _ _ hlt] at hb; simp at hb; omega
    · rw [grpF_ge _ _ hlt] at hb
      rcases List.mem_cons.1 hb with rfl | hb
      · omega
      · refine ih (n / 128) ?_ b hb
        rw [Nat.pow_succ] at h
        exact Nat.div_lt_of_lt_mul (by rw [Nat.mul_comm]; exact h)
theorem grp_byte (n : Nat) (h : n < 9223372036854775808) : ∀ b ∈ grp n, b < 256 := grpF_byte 9 n (by omega)
theorem sb_byte (s : ByteArray) : ∀ b ∈ sb s, b < 256 := by
  intro b hb
  simp only [sb, List.mem_map] at hb
  obtain ⟨u, _, rfl⟩ := hb
  exact u.toNat_lt
theorem st0_byte (R : Nat) (ss : List ByteArray) (h : ∀ s ∈ ss, s.size ≤ 40) (hR : R ≤ 131072) (hn : ss.length ≤ 512) : ∀ b ∈ (84 :: stB R 0 0 (lv0s ss)), b < 256 := by
  intro b hb
  have e : grp (2 * 0) = [0] := rfl
  have e2 : grp (2 * (0 : Int).toNat) = [0] := rfl
  simp only [stB, e, List.mem_cons, List.mem_append, List.mem_flatMap, List.not_mem_nil, or_false, lv0s, List.length_map] at hb
  rcases hb with rfl | hb | rfl | rfl | (hb | ⟨x, hx, hb⟩) | rfl | rfl
  · omega
  · exact grp_byte _ (by omega) _ hb
  · omega
  · omega
  · exact grp_byte _ (by omega) _ hb
  · simp only [List.mem_map] at hx
    obtain ⟨s, hs, rfl⟩ := hx
    simp only [lvB, e2, List.mem_append, List.mem_cons, List.not_mem_nil, or_false] at hb
    have := h s hs
    rcases hb with (hb | hb) | rfl | rfl
    · exact grp_byte _ (by omega) _ hb
    · exact sb_byte _ _ hb
    · omega
    · omega
  · omega
  · omega
theorem Blk.lowp {w w' : World} {g b : Nat} {t : TypeId} {cs : Array Value} (h : Blk w b t cs) (hb : Below g w w') (hlt : b < g) : Blk w' b t cs := h.move (hb.block b hlt)
theorem TabAt.lowp {w w' : World} {g : Nat} (h : TabAt w) (hb : Below g w w') (hlt : 0 < g) : TabAt w' := fun i hi => by
  rw [World.cell?_of_block (w := w) (hb.block _ hlt)]
  exact h i hi
theorem Rd.lowp {w w' : World} {g size n : Nat} {a : Addr} {xs : List Value} (h : Rd w size (some a) n xs) (hb : Below g w w') (hlt : a.block < g) : Rd w' size (some a) n xs := h.move (fun ad e => by cases e; exact hb.block _ hlt)
def hd1 (a : Nat) : List Nat := lay (fill []) 0 (le 8 a)
def hd2 (a b : Nat) : List Nat := lay (hd1 a) 8 (le 8 b)
def hd3 (a b c : Nat) : List Nat := lay (hd2 a b) 16 (le 8 c)
def hd4 (a b c : Nat) : List Nat := lay (hd3 a b c) 120 (le 8 a)
theorem hd1_len (a : Nat) : (hd1 a).length = 128 := by unfold hd1; rw [lay_length _ _ _ (by simp [fill])]; rfl
theorem hd2_len (a b : Nat) : (hd2 a b).length = 128 := by unfold hd2; rw [lay_length _ _ _ (by rw [hd1_len]; simp)]; exact hd1_len a
theorem hd3_len (a b c : Nat) : (hd3 a b c).length = 128 := by unfold hd3; rw [lay_length _ _ _ (by rw [hd2_len]; simp)]; exact hd2_len a b
theorem crcN_lt (l : List Nat) (h : ∀ b ∈ l, b < 256) : crcN l < 4294967296 := Nat.xor_lt_two_pow (n := 32) (by omega) (crcOn_lt l _ (by omega) h)
theorem lv0_ok (ss : List ByteArray) (h : ∀ s ∈ ss, s.size ≤ 40) : ∀ x ∈ lv0s ss, okLv x := by
  intro x hx
  simp only [lv0s, List.mem_map] at hx
  obtain ⟨s, hs, rfl⟩ := hx
  have := h s hs
  exact ⟨by simp only; omega, by simp, by simp, by simp, by simp⟩

/-- The k-th piece of bytes. -/
def chunk (x : List Nat) (k : Nat) : List Nat := (x.drop (128 * k)).take 128
/-- The cells of writes: the sectors one behind the other. -/
def wrC : Int → List Nat → List Value
  | _, [] => []
  | s, h :: r => [.int .i64 s, .slice (some ⟨h, 0, none⟩) 128 128] ++ wrC (s + 1) r
theorem wrC_snoc (s : Int) (gs : List Nat) (h : Nat) : wrC s (gs ++ [h]) = wrC s gs ++ [.int .i64 (s + gs.length), .slice (some ⟨h, 0, none⟩) 128 128] := by
  induction gs generalizing s with
  | nil => simp [wrC]
  | cons g r ih =>
    simp only [List.cons_append, wrC, ih (s + 1), List.length_cons]
    rw [show s + 1 + (r.length : Int) = s + ((r.length + 1 : Nat) : Int) by omega]
    simp
/-- What holds when the pieces pre are laid. -/
structure LI (w1 : World) (B6 : Nat) (slot : Int) (x : List Nat) (pre : List (Ck x.length)) (W : World) : Prop where
  os : W.os = w1.os
  tape : W.tape = w1.tape
  output : W.output = w1.output
  size : w1.heap.size ≤ W.heap.size
  block : ∀ b, b < w1.heap.size → b ≠ B6 → W.heap[b]? = w1.heap[b]?
  ex : ∃ v gs, Blk W B6 31 #[v] ∧ W.ownsRow w1.heap.size 34 2 v pre.length (wrC (slot + 1) gs) ∧ gs.length = pre.length ∧
    ∀ (j : Nat) (y : Ck x.length) (h : Nat), pre[j]? = some y → gs[j]? = some h → Blk W h 5 (bv (fill (chunk x y.1))).toArray ∧ w1.heap.size ≤ h
theorem Blk.other {W W' : World} {b : Nat} {t : TypeId} {cs : Array Value} {row : Option Nat} (h : Blk W b t cs) (hg : W.grownBy W' row) (hr : ∀ r, row = some r → ∃ o : Obj, W.heap[r]? = some o ∧ o.isCells = false) : Blk W' b t cs := by
  refine h.grown hg fun e => ?_
  obtain ⟨o, ho, hc⟩ := hr b e.symm
  rw [show W.heap[b]? = some (.cells cs t (0, 0)) from h] at ho
  cases ho
  cases hc
theorem LI.own {w1 : World} {B6 : Nat} {slot : Int} {x : List Nat} (hB : B6 < w1.heap.size) : OwnFrom w1.heap.size (LI w1 B6 slot x) := by
  intro pre W W' row h hg hr
  refine ⟨hg.os.trans h.os, hg.tape.trans h.tape, hg.output.trans h.output, Nat.le_trans h.size hg.size, fun b hb hne => ?_, ?_⟩
  · rw [hg.block b (Nat.lt_of_lt_of_le hb h.size) (fun e => by have := (hr b e.symm).1; omega)]
    exact h.block b hb hne
  · obtain ⟨v, gs, h1, h2, h3, h4⟩ := h.ex
    refine ⟨v, gs, h1.other hg (fun r e => (hr r e).2), h2.kept hg ?_, h3, fun j y k hj hk => ⟨(h4 j y k hj hk).1.other hg (fun r e => (hr r e).2), (h4 j y k hj hk).2⟩⟩
    rcases hv : v.ownBlock with _ | q
    · exact .inl rfl
    · right
      intro e
      obtain ⟨_, o, ho, hc⟩ := hr q e.symm
      rcases h2.2 with ⟨rfl, _⟩ | ⟨g, cap, cur, rfl, _, hh, _⟩
      · simp [Value.ownBlock] at hv
      · simp [Value.ownBlock] at hv
        subst hv
        rw [hh] at ho
        cases ho
        cases hc

/-- What a checkpoint's writes are. -/
structure LO (B : Nat) (slot : Int) (epoch : Nat) (x : List Nat) (g : Nat) (gs : List Nat) (v : Value) (W : World) : Prop where
  row : W.ownsRow B 34 2 v gs.length (wrC (slot + 1) gs)
  len : gs.length = (x.length + 127) / 128
  pieces : ∀ (j h : Nat), gs[j]? = some h → Blk W h 5 (bv (fill (chunk x j))).toArray
  head : Blk W g 5 (bv (hd4 epoch x.length (crcN x))).toArray
theorem own_other {W W' : World} {B n size : Nat} {t : TypeId} {v : Value} {xs : List Value} {row : Option Nat} (h : W.ownsRow B t size v n xs) (hg : W.grownBy W' row) (hr : ∀ r, row = some r → ∃ o : Obj, W.heap[r]? = some o ∧ o.isCells = false) : W'.ownsRow B t size v n xs := by
  refine h.kept hg ?_
  rcases hv : v.ownBlock with _ | q
  · exact .inl rfl
  · right
    intro e
    obtain ⟨o, ho, hc⟩ := hr q e.symm
    rcases h.2 with ⟨rfl, _⟩ | ⟨g, cap, cur, rfl, _, hh, _⟩
    · simp [Value.ownBlock] at hv
    · simp [Value.ownBlock] at hv
      subst hv
      rw [hh] at ho
      cases ho
      cases hc
theorem LO.other {B epoch g : Nat} {slot : Int} {x gs : List Nat} {v : Value} {W W' : World} {row : Option Nat} (h : LO B slot epoch x g gs v W) (hg : W.grownBy W' row) (hr : ∀ r, row = some r → ∃ o : Obj, W.heap[r]? = some o ∧ o.isCells = false) : LO B slot epoch x g gs v W' :=
  ⟨own_other h.row hg hr, h.len, fun j k hj => (h.pieces j k hj).other hg hr, h.head.other hg hr⟩
theorem LO.set {B epoch g q o : Nat} {slot : Int} {x gs : List Nat} {v : Value} {W : World} (h : LO B slot epoch x g gs v W) (hq1 : q ≠ g) (hq2 : ∀ k ∈ gs, k ≠ q) (hq3 : v.ownBlock ≠ some q) (u : Value) : LO B slot epoch x g gs v (W.setCell ⟨q, o, none⟩ u) :=
  ⟨own_move h.row (fun k hk => Below.heap_setCell _ _ _ _ (by intro e; exact hq3 (by rw [hk, e]))), h.len, fun j k hj => (h.pieces j k hj).far (by simpa using hq2 k (List.mem_of_getElem? hj)) u, h.head.far (by simpa using Ne.symm hq1) u⟩
theorem LO.drew {B epoch g : Nat} {slot : Int} {x gs : List Nat} {v : Value} {W : World} (h : LO B slot epoch x g gs v W) : LO B slot epoch x g gs v W.drew := ⟨h.row, h.len, h.pieces, h.head⟩
theorem nums_get {N : Nat} (xs : List (Ck N)) (m j : Nat) (h : nums xs = List.range m) (hj : j < xs.length) : ∃ y, xs[j]? = some y ∧ y.1 = j := by
  refine ⟨xs[j], List.getElem?_eq_getElem hj, ?_⟩
  have h1 : (nums xs)[j]? = some xs[j].1 := by simp [nums, List.getElem?_eq_getElem hj]
  rw [h, List.getElem?_range (by have := congrArg List.length h; rw [nums_length] at this; simp at this; omega)] at h1
  simpa using h1.symm
theorem LI.out {w1 W : World} {B6 B epoch g : Nat} {slot : Int} {x : List Nat} {xs : List (Ck x.length)} {v : Value} {gs : List Nat} (hB : B ≤ w1.heap.size) (hS : nums xs = List.range ((x.length + 127) / 128)) (hrow : W.ownsRow w1.heap.size 34 2 v gs.length (wrC (slot + 1) gs)) (hl : gs.length = xs.length)
    (hp : ∀ (j : Nat) (y : Ck x.length) (h : Nat), xs[j]? = some y → gs[j]? = some h → Blk W h 5 (bv (fill (chunk x y.1))).toArray ∧ w1.heap.size ≤ h) (hh : Blk W g 5 (bv (hd4 epoch x.length (crcN x))).toArray) : LO B slot epoch x g gs v W := by
  refine ⟨own_low hrow hB, ?_, fun j h hj => ?_, hh⟩
  · have := congrArg List.length hS
    rw [nums_length] at this
    rw [hl, this]; simp
  · have hlt : j < xs.length := by rw [← hl]; exact (List.getElem?_eq_some_iff.1 hj).1
    obtain ⟨y, hy, e⟩ := nums_get xs _ j hS hlt
    have := (hp j y h hy hj).1
    rwa [e] at this
theorem LI.far {w1 W : World} {B6 : Nat} {slot : Int} {x : List Nat} {xs : List (Ck x.length)} {gs : List Nat} (hl : gs.length = xs.length)
    (hp : ∀ (j : Nat) (y : Ck x.length) (h : Nat), xs[j]? = some y → gs[j]? = some h → Blk W h 5 (bv (fill (chunk x y.1))).toArray ∧ w1.heap.size ≤ h) : ∀ k ∈ gs, w1.heap.size ≤ k := by
  intro k hk
  obtain ⟨j, hj⟩ := List.getElem?_of_mem hk
  have hlt : j < xs.length := by rw [← hl]; exact (List.getElem?_eq_some_iff.1 hj).1
  exact (hp j _ k (List.getElem?_eq_getElem hlt) hj).2
/-- A piece is read where it lies. -/
theorem Rd.piece {w : World} {g N : Nat} {x : List Nat} (h : Rd w 1 (some ⟨g, 0, none⟩) N (bv x)) (hN : x.length = N) (k : Nat) : Rd w 1 (some ⟨g, 128 * k, none⟩) (min 128 (N - 128 * k)) (bv (chunk x k)) := by
  refine ⟨by simp [chunk, hN], fun hn => ⟨_, rfl, fun j u hu => ?_⟩⟩
  have hj : j < min 128 (N - 128 * k) := by
    have := (List.getElem?_eq_some_iff.1 hu).1
    simp [chunk, hN] at this
    omega
  obtain ⟨ad, e, hc⟩ := h.cells (by omega)
  cases e
  have h2 : (bv x)[128 * k + j]? = some u := by
    rw [← hu]
    simp only [bv, chunk, List.getElem?_map]
    rw [List.getElem?_take, if_pos (by omega), List.getElem?_drop]
  have := hc _ _ h2
  have e1 : ∀ m : Nat, (⟨g, 0, none⟩ : Addr).add m = ⟨g, m, none⟩ := fun m => by unfold Addr.add; split <;> simp_all
  have e2 : (⟨g, 128 * k, none⟩ : Addr).add j = ⟨g, 128 * k + j, none⟩ := by unfold Addr.add; split <;> simp_all
  rw [e1] at this
  rw [e2]
  exact this
theorem chunk_len (x : List Nat) (k : Nat) : (chunk x k).length = min 128 (x.length - 128 * k) := by simp [chunk]
theorem LI.step {w1 W V wx : World} {B6 g2 g' cap : Nat} {slot : Int} {x : List Nat} {pre : List (Ck x.length)} {y : Ck x.length} {v : Value} {gs : List Nat} (hB : B6 < w1.heap.size) (h : LI w1 B6 slot x pre W)
    (b6 : Blk W B6 31 #[v]) (own6 : W.ownsRow w1.heap.size 34 2 v pre.length (wrC (slot + 1) gs)) (hgl : gs.length = pre.length)
    (hpc : ∀ (j : Nat) (y : Ck x.length) (h : Nat), pre[j]? = some y → gs[j]? = some h → Blk W h 5 (bv (fill (chunk x y.1))).toArray ∧ w1.heap.size ≤ h)
    (hbV : Below W.heap.size W V) (hB2 : Blk V g2 5 (bv (fill (chunk x y.1))).toArray) (hg2 : W.heap.size ≤ g2)
    (hown : wx.ownsRow w1.heap.size 34 2 (.slice (some ⟨g', 0, none⟩) (pre.length + 1) cap) (pre.length + 1) (wrC (slot + 1) gs ++ [.int .i64 (slot + 1 + pre.length), .slice (some ⟨g2, 0, none⟩) 128 128])) (hgrow : V.grownBy wx v.ownBlock) :
    KeepsOthers W (wx.setCell ⟨B6, 0, none⟩ (.slice (some ⟨g', 0, none⟩) (pre.length + 1) cap)) ∧ (∀ b, b < w1.heap.size → b ≠ B6 → (wx.setCell ⟨B6, 0, none⟩ (.slice (some ⟨g', 0, none⟩) (pre.length + 1) cap)).heap[b]? = W.heap[b]?) ∧
      LI w1 B6 slot x (pre ++ [y]) (wx.setCell ⟨B6, 0, none⟩ (.slice (some ⟨g', 0, none⟩) (pre.length + 1) cap)) := by
  have ownV := own_below own6 hbV
  have hsz : W.heap.size ≤ wx.heap.size := Nat.le_trans hbV.size hgrow.size
  have hlow : ∀ b, b < w1.heap.size → b ≠ B6 → (wx.setCell ⟨B6, 0, none⟩ (.slice (some ⟨g', 0, none⟩) (pre.length + 1) cap)).heap[b]? = W.heap[b]? := by
    intro b hb hne
    rw [Below.heap_setCell _ _ _ _ (by simpa using hne), hgrow.block b (Nat.lt_of_lt_of_le hb (Nat.le_trans h.size hbV.size)) (fun e => by have := own_base own6 b e.symm; omega), hbV.block b (Nat.lt_of_lt_of_le hb h.size)]
  refine ⟨⟨by simpa [World.setCell] using hsz, fun k o hk ho => ?_⟩, hlow, ?_⟩
  · have hkW : k < W.heap.size := (Array.getElem?_eq_some_iff.1 hk).1
    have hkV : V.heap[k]? = some o := (hbV.block k hkW).trans hk
    have hne : some k ≠ v.ownBlock := by
      intro e
      rcases ownV.2 with ⟨rfl, _⟩ | ⟨q, _, cur, rfl, _, hh, _⟩
      · simp [Value.ownBlock] at e
      · simp [Value.ownBlock] at e
        subst e
        rw [hh] at hkV
        cases hkV
        cases ho
    exact (KeepsOthers.setCell wx ⟨B6, 0, none⟩ _).same k o ((hgrow.block k (Nat.lt_of_lt_of_le hkW hbV.size) hne).trans hkV) ho
  · refine ⟨hgrow.os.trans (hbV.os.trans h.os), hgrow.tape.trans (hbV.tape.trans h.tape), hgrow.output.trans (hbV.output.trans h.output), by simpa [World.setCell] using Nat.le_trans h.size hsz, fun b hb hne => (hlow b hb hne).trans (h.block b hb hne), .slice (some ⟨g', 0, none⟩) (pre.length + 1) cap, gs ++ [g2], ?_, ?_, by simp [hgl], ?_⟩
    · have := ((b6.below hbV).grown hgrow (fun e => by have := own_base own6 B6 e.symm; omega)).set_ 0 (.slice (some ⟨g', 0, none⟩) (pre.length + 1) cap)
      simpa using this
    · rw [wrC_snoc, hgl, List.length_append]
      exact own_move hown (fun q hq => Below.heap_setCell _ _ _ _ (by have := own_base hown q hq; simp; omega))
    · intro j y' k hj hk
      by_cases hlt : j < pre.length
      · rw [List.getElem?_append_left hlt] at hj
        rw [List.getElem?_append_left (by omega)] at hk
        obtain ⟨h1, h2⟩ := hpc j y' k hj hk
        refine ⟨((h1.below hbV).grown hgrow ?_).far (by simp; omega) _, h2⟩
        intro e
        rcases ownV.2 with ⟨rfl, _⟩ | ⟨q, _, cur, rfl, _, hh, _⟩
        · simp [Value.ownBlock] at e
        · simp [Value.ownBlock] at e
          subst e
          have := h1.below hbV
          unfold Blk at this
          rw [hh] at this
          simp at this
      · have hj2 : j = pre.length := by
          have := (List.getElem?_eq_some_iff.1 hj).1
          simp at this; omega
        subst hj2
        simp at hj
        rw [List.getElem?_append_right (by omega), hgl] at hk
        simp at hk
        subst hj; subst hk
        have := h.size
        exact ⟨(hB2.grown hgrow (fun e => by have := own_lt own6 g2 e.symm; omega)).far (by simp; omega) _, by omega⟩
theorem info_write : (Tryz.prog.info? 34).map (fun i => (i.zero, i.size, i.bytes)) = some (some (.agg #[.int .i64 0, .slice none 0 0]), 2, 32) := by kernel_rfl
def LayPost (w : World) (slot : Int) (epoch : Nat) (x : List Nat) (e : Ending) (w' : World) : Prop :=
  (∃ g gs A6 c6, e = .returned (.tuple #[.slice A6 gs.length c6, .agg #[.int .i64 slot, .slice (some ⟨g, 0, none⟩) 128 128], .int .i64 0]) ∧ LO w.heap.size slot epoch x g gs (.slice A6 gs.length c6) w') ∧ Below w.heap.size w w'

set_option maxRecDepth 100000 in
set_option maxHeartbeats 6400000 in
theorem layout0 (A A1 : Option Addr) (n c c1 st hd : Nat) (epoch : Nat) (se sl : Int) (ss : List ByteArray) (w : World) (hT : TabAt w) (hl : ss.length = n) (hn1 : 1 ≤ n) (hn : n ≤ 512) (hE : emptyE ss st hd se sl = 0) (hsl : 2 ≤ sl ∧ sl ≤ 1024) (he : 1 ≤ epoch ∧ epoch ≤ 1099511627775)
    (hok : ss.all (okText · 40) = true) (hri : rise ss = true) (hwt : (wt0 ss : Int) ≤ roomOf sl) (hr : Rd w 1 A n (strs ss)) (hr3 : Rd w 3 A1 n (lvCells ss)) :
    Calls Tryz.prog 6 #[cfgV A n c st hd se sl, .int .i64 (epoch : Int), stV (roomOf sl) 0 0 A1 n c1] w (LayPost w ((epoch : Int) % 2 * sl) epoch (84 :: stB (roomOf sl).toNat 0 0 (lv0s ss))) := by
  have HL := hide hl
  have HE := hide hE
  have HO := hide hok
  have HRi := hide hri
  have HW := hide hwt
  have HT := hide hT
  have HRo := hide (show roomOf sl = (sl - 1) * 128 by simp [roomOf]; omega)
  obtain ⟨sl1, sl2⟩ := hsl
  obtain ⟨e1, e2⟩ := he
  have HX := hide (show 0 ≤ roomOf sl ∧ roomOf sl ≤ 131072 by rw [HRo.out]; omega)
  have HB0 := hide (bA (bA (bA (bA (Below.refl w.heap.size w) (.cells (cfgC A n c st hd se sl) 24)) (.cells (stC (roomOf sl) 0 0 A1 n c1) 29)) (.cells #[.slice none 0 0] 31)) (.cells #[.int .i64 0, .slice none 0 0] 34))
  have HR := hide (hr.below HB0.out)
  have HR3 := hide (hr3.below HB0.out)
  have HT0 := hide (hT.below HB0.out)
  clear hT hl hE hok hri hwt hr hr3
  refine (callsIn_wide (n := 5)).1 ?_
  refine callsIn_of_wp_marks Tryz.func6 rfl trivial ?_ rfl
  simp only [Tryz.ntmps6, List.size_toArray, List.length_cons, List.length_nil, Nat.reduceAdd, Nat.reduceSub, Array.replicate_succ, Array.replicate_zero, List.push_toArray, List.append_toArray, List.nil_append, List.cons_append]
  refine wpIn_wide.2 ?_
  go_wp2_with fail
  refine (check_any A n c ss st hd se sl _ HL.out (by omega) HR.out).mono ?_
  rintro e w1 ⟨rfl, hb1⟩
  rw [HE.out]
  have HB1 := hide (bT HB0.out hb1)
  have HC := hide (((((Blk.new1 (w := w) rfl 24 (cfgC A n c st hd se sl)).alloc (.cells (stC (roomOf sl) 0 0 A1 n c1) 29)).alloc (.cells #[.slice none 0 0] 31)).alloc (.cells #[.int .i64 0, .slice none 0 0] 34)).below hb1)
  have HS := hide ((((Blk.new1 (w := w.alloc (.cells (cfgC A n c st hd se sl) 24)) (g := w.heap.size + 1) (by simp) 29 (stC (roomOf sl) 0 0 A1 n c1)).alloc (.cells #[.slice none 0 0] 31)).alloc (.cells #[.int .i64 0, .slice none 0 0] 34)).below hb1)
  have HY := hide (((Blk.new1 (w := (w.alloc (.cells (cfgC A n c st hd se sl) 24)).alloc (.cells (stC (roomOf sl) 0 0 A1 n c1) 29)) (g := w.heap.size + 1 + 1) (by simp) 31 #[.slice none 0 0]).alloc (.cells #[.int .i64 0, .slice none 0 0] 34)).below hb1)
  have HZ := hide ((Blk.new1 (w := ((w.alloc (.cells (cfgC A n c st hd se sl) 24)).alloc (.cells (stC (roomOf sl) 0 0 A1 n c1) 29)).alloc (.cells #[.slice none 0 0] 31)) (g := w.heap.size + 1 + 1 + 1) (by simp) 34 #[.int .i64 0, .slice none 0 0]).below hb1)
  have HR1 := hide (HR.out.below hb1)
  have HR31 := hide (HR3.out.below hb1)
  have HT1 := hide (HT0.out.below hb1)
  have hs1 : w.heap.size + 1 + 1 + 1 < w1.heap.size := HZ.out.lt
  clear hb1 HR HR3 HT0 HB0
  have c0 : w1.cell? ⟨w.heap.size, 0, none⟩ = some (.slice A n c) := HC.out.cell 0
  have c1_ : w1.cell? ⟨w.heap.size, 1, none⟩ = some (.int .i64 (st : Int)) := HC.out.cell 1
  have c2 : w1.cell? ⟨w.heap.size, 2, none⟩ = some (.int .i64 (hd : Int)) := HC.out.cell 2
  have c3 : w1.cell? ⟨w.heap.size, 3, none⟩ = some (.int .i64 se) := HC.out.cell 3
  have c4 : w1.cell? ⟨w.heap.size, 4, none⟩ = some (.int .i64 sl) := HC.out.cell 4
  have s0 : w1.cell? ⟨w.heap.size + 1, 0, none⟩ = some (.int .i64 (roomOf sl)) := HS.out.cell 0
  have s1 : w1.cell? ⟨w.heap.size + 1, 1, none⟩ = some (.int .i64 0) := HS.out.cell 1
  have s2 : w1.cell? ⟨w.heap.size + 1, 2, none⟩ = some (.int .i64 0) := HS.out.cell 2
  have s3 : w1.cell? ⟨w.heap.size + 1, 3, none⟩ = some (.slice A1 n c1) := HS.out.cell 3
  have s4 : w1.cell? ⟨w.heap.size + 1, 4, none⟩ = some (.slice none 0 0) := HS.out.cell 4
  have s5 : w1.cell? ⟨w.heap.size + 1, 5, none⟩ = some (.slice none 0 0) := HS.out.cell 5
  go_wp2_with fail
  refine (epochs_any (epoch : Int) _ (by omega) (by omega)).mono ?_
  rintro e w1' ⟨rfl, rfl⟩
  go_wp2_with fail
  refine (goes0 A A1 n c c1 st hd se sl ss _ HL.out hn1 hn HX.out HO.out HRi.out HW.out HR1.out HR31.out).mono ?_
  rintro e w2 ⟨rfl, hb2⟩
  have d0 := bget hb2 c0
  have d1 := bget hb2 c1_
  have d2 := bget hb2 c2
  have d3 := bget hb2 c3
  have d4 := bget hb2 c4
  have t0 := bget hb2 s0
  have t1 := bget hb2 s1
  have t2 := bget hb2 s2
  have t3 := bget hb2 s3
  have t4 := bget hb2 s4
  have t5 := bget hb2 s5
  have HC2 := hide (HC.out.below hb2)
  have HY2 := hide (HY.out.below hb2)
  have HZ2 := hide (HZ.out.below hb2)
  have HR32 := hide (HR31.out.below hb2)
  have HT2 := hide (HT1.out.below hb2)
  have HB2 := hide (bT HB1.out hb2)
  have lY2 : w.heap.size + 1 + 1 < w2.heap.size := HY2.out.lt
  clear hb2 c0 c1_ c2 c3 c4 s0 s1 s2 s3 s4 s5 HC HS HY HZ HR1 HR31 HT1 HB1 hs1
  go_wp2_with fail
  have hsz40 : ∀ s ∈ ss, s.size ≤ 40 := fun s hs => size_of_ok (List.all_eq_true.1 HO.out s hs)
  obtain ⟨R, hR⟩ := Int.eq_ofNat_of_zero_le HX.out.1
  have hR2 : R ≤ 131072 := by have := HX.out.2; omega
  have hxb := st0_bytes R ss hsz40 hR2 (by rw [HL.out]; exact hn)
  have HXB := hide (st0_byte R ss hsz40 hR2 (by rw [HL.out]; exact hn))
  have hxm : (84 :: stB R 0 0 (lv0s ss)).length ≤ 131072 := by have := HW.out; omega
  obtain ⟨x, hx⟩ : ∃ x, x = 84 :: stB R 0 0 (lv0s ss) := ⟨_, rfl⟩
  have hps : Calls Tryz.prog 23 #[.agg #[.int .i64 (roomOf sl), .int .i64 0, .int .i64 0, .slice A1 n c1, .slice none 0 0, .slice none 0 0]] w2 (Coded w2.heap.size x w2) := by
    rw [hR, hx]
    exact putState_any R 0 0 A1 n c1 (lv0s ss) w2 (by rw [← lvCells_eq]; exact HR32.out) (by simp [HL.out]) (lv0_ok ss hsz40) (by omega) (by omega) (by omega) (by omega) (fun ad e => by obtain ⟨ad', e', h'⟩ := HR32.out.lt (by omega) (by omega); rw [e] at e'; cases e'; exact h') hxm
  have hx1 : 1 ≤ x.length := by rw [hx]; simp
  have hx2 : (x.length : Int) ≤ roomOf sl := by rw [hx]; have := HW.out; omega
  have hx3 : x.length ≤ 131072 := by rw [hR] at hx2; omega
  rw [← hx] at HXB
  have HXE := hide (show x = 84 :: stB (roomOf sl).toNat 0 0 (lv0s ss) by rw [hx, hR]; rfl)
  clear hx hxb hxm hsz40 hR hR2
  refine hps.mono ?_
  rintro e w3 ⟨⟨gb, capb, rfl, hown⟩, hb3⟩
  clear hps
  have HOwn := hide hown
  have HC3 := hide (HC2.out.below hb3)
  have HY3 := hide (HY2.out.below hb3)
  have HZ3 := hide (HZ2.out.below hb3)
  have HT3 := hide (HT2.out.below hb3)
  have HB3 := hide (bT HB2.out hb3)
  have HG3 := hide (own_lt hown gb rfl)
  have c0 := bget hb3 d0
  have c1_ := bget hb3 d1
  have c2 := bget hb3 d2
  have c3 := bget hb3 d3
  have c4 := bget hb3 d4
  clear hown hb3 d0 d1 d2 d3 d4 t0 t1 t2 t3 t4 t5 HC2 HY2 HZ2 HT2 HB2 HR32
  go_wp2_with fail
  refine (room_any A n c st hd se sl _).mono ?_
  rintro e w4 ⟨rfl, rfl⟩
  have hlt0 : w.heap.size < w3.heap.size := HC3.out.lt
  obtain ⟨slot, hslot⟩ : ∃ slot, slot = (epoch : Int) % 2 * sl := ⟨_, rfl⟩
  have hslb : 0 ≤ slot ∧ slot ≤ 1024 := by
    have : (epoch : Int) % 2 = 0 ∨ (epoch : Int) % 2 = 1 := by omega
    rcases this with h | h <;> rw [hslot, h] <;> omega
  have hws : wrap64 ((epoch : Int) % 2 * sl) = slot := by rw [← hslot]; simp only [wrap64]; omega
  have HSlot := hide hslot
  clear hslot
  go_wp2_with fail
  refine (sector_any none 0 0 [] _ (Rd.none_ _ _) rfl (by omega)).mono ?_
  rintro e w5 ⟨⟨g, rfl, hg5, hgs⟩, hb5⟩
  have HB5 := hide (bA (bA (Below.refl w3.heap.size w3) (.cells (cfgC A n c st hd se sl) 24)) (.cells #[.int .i64 slot] 3))
  have HB5' := hide (bT HB5.out hb5)
  have HI5 := hide ((Blk.new1 (w := w3.alloc (.cells (cfgC A n c st hd se sl) 24)) (g := w3.heap.size + 1) (by simp) 3 #[.int .i64 slot]).below hb5)
  have HG5 := hide hg5
  have gw : w3.heap.size + 1 < g := by simp at hgs; omega
  have gT : 0 < w3.heap.size := World.block_lt_of_cell? w3 _ (HT3.out 0 (by omega))
  have gX : gb < w3.heap.size := HG3.out
  have HY5 := hide (HY3.out.below HB5'.out)
  have HZ5 := hide (HZ3.out.below HB5'.out)
  have HT5 := hide (HT3.out.below HB5'.out)
  have HR5 := hide ((Rd.of_own HOwn.out).below HB5'.out)
  have lY : w.heap.size + 1 + 1 < w3.heap.size := HY3.out.lt
  have lZ : w.heap.size + 1 + 1 + 1 < w3.heap.size := HZ3.out.lt
  clear hb5 hg5 hgs c0 c1_ c2 c3 c4 HC3 HY3 HZ3 HT3 HB5 hlt0
  go_wp2_with fail
  refine (put_any g 0 epoch (fill []) _ HG5.out rfl (by omega) (by omega)).mono ?_
  rintro e w6 ⟨rfl, hg6, hb6⟩
  have HG6 := hide (show Blk w6 g 5 (bv (hd1 epoch)).toArray from hg6)
  have HB6 := hide hb6
  clear hg6 hb6
  have xl : (x.length : Int) < 18446744073709551616 := by omega
  go_wp2_with fail
  refine (put_any g 8 x.length (hd1 epoch) _ HG6.out (hd1_len _) (by omega) (by omega)).mono ?_
  rintro e w7 ⟨rfl, hg7, hb7⟩
  have HG7 := hide (show Blk w7 g 5 (bv (hd2 epoch x.length)).toArray from hg7)
  have HB7 := hide (HB6.out.trans hb7)
  clear hg7 hb7 HG6 HB6
  have HR7 := hide (HR5.out.lowp HB7.out (by simp only; omega))
  have HT7 := hide (HT5.out.lowp HB7.out (by omega))
  obtain ⟨cr, hcr⟩ : ∃ cr, cr = crcN x := ⟨_, rfl⟩
  have hcb : cr < 4294967296 := by rw [hcr]; exact crcN_lt x HXB.out
  have HCR := hide hcr
  have hcrc := crc_any (some ⟨gb, 0, none⟩) x.length capb x w7 HT7.out HR7.out rfl HXB.out (by omega)
  rw [← hcr] at hcrc
  clear hcr
  go_wp2_with fail
  refine hcrc.mono ?_
  rintro e w7' ⟨rfl, rfl⟩
  clear hcrc
  go_wp2_with fail
  refine (put_any g 16 cr (hd2 epoch x.length) _ HG7.out (hd2_len _ _) (by omega) (by omega)).mono ?_
  rintro e w8 ⟨rfl, hg8, hb8⟩
  have HG8 := hide (show Blk w8 g 5 (bv (hd3 epoch x.length cr)).toArray from hg8)
  have HB8 := hide (HB7.out.trans hb8)
  clear hg8 hb8 HG7 HB7 HR7 HT7
  go_wp2_with fail
  refine (put_any g 120 epoch (hd3 epoch x.length cr) _ HG8.out (hd3_len _ _ _) (by omega) (by omega)).mono ?_
  rintro e w9 ⟨rfl, hg9, hb9⟩
  have HG9 := hide (show Blk w9 g 5 (bv (hd4 epoch x.length cr)).toArray from hg9)
  have HB9 := hide (HB8.out.trans hb9)
  clear hg9 hb9 HG8 HB8
  have HY9 := hide (HY5.out.lowp HB9.out (by omega))
  have HZ9 := hide (HZ5.out.lowp HB9.out (by omega))
  have HI9 := hide (HI5.out.lowp HB9.out gw)
  have HR9 := hide (HR5.out.lowp HB9.out (by simp only; omega))
  clear HY5 HZ5 HI5 HR5 HT5
  go_wp2_with fail
  refine (chunk_any (some ⟨gb, 0, none⟩) x.length capb _).mono ?_
  rintro e w10 ⟨rfl, rfl⟩
  go_wp2_with fail
  obtain ⟨w10, hw10⟩ : ∃ w10, w10 = (w9.alloc (.cells #[.slice (some ⟨gb, 0, none⟩) x.length capb] 32)).alloc (.cells #[.int .i64 128] 3) := ⟨_, rfl⟩
  have HB10 := hide (bA (bA (Below.refl w9.heap.size w9) (.cells #[.slice (some ⟨gb, 0, none⟩) x.length capb] 32)) (.cells #[.int .i64 128] 3))
  have HK1 := hide ((Blk.new1 (w := w9) (g := w9.heap.size) rfl 32 #[.slice (some ⟨gb, 0, none⟩) x.length capb]).alloc (.cells #[.int .i64 128] 3))
  have HK2 := hide (Blk.new1 (w := w9.alloc (.cells #[.slice (some ⟨gb, 0, none⟩) x.length capb] 32)) (g := w9.heap.size + 1) (by simp) 3 #[.int .i64 128])
  rw [← hw10] at HB10 HK1 HK2 ⊢
  clear hw10
  have HY10 := hide (HY9.out.below HB10.out)
  have HZ10 := hide (HZ9.out.below HB10.out)
  have HI10 := hide (HI9.out.below HB10.out)
  have HR10 := hide (HR9.out.below HB10.out)
  have HG10 := hide (HG9.out.below HB10.out)
  have n1 : w9.heap.size + 1 < w10.heap.size := HK2.out.lt
  have n2 : w.heap.size + 1 + 1 < w9.heap.size := HY9.out.lt
  have hcapx : x.length ≤ capb := by
    obtain ⟨A', c', e', h'⟩ := own_slice HOwn.out
    cases e'; exact h'
  have hcapm : capb ≤ 9223372036854775807 := by
    rcases HOwn.out.2 with ⟨e', _⟩ | ⟨g', cap', cur', e', _, _, _, hc', _⟩
    · cases e'
    · cases e'; simpa [maxLen] using hc'
  refine range_one (d := 13) (fun y : Ck x.length => .slice (some ⟨gb, 128 * y.1, none⟩) (min 128 (x.length - 128 * y.1)) (min 128 (x.length - 128 * y.1))) (Kp := fun A B => ∀ b, b < w10.heap.size → b ≠ w.heap.size + 1 + 1 → B.heap[b]? = A.heap[b]?) rfl (enters_of Tryz.func61 (by kernel_rfl) rfl)
    (chunk_stops Fence.wide 4 trivial rfl (by omega) w9.heap.size (w9.heap.size + 1) gb x.length capb hx3 hcapx hcapm _ (fun A B h => ⟨World.cell?_of_block (h _ (by simp only; omega) (by simp only; omega)), World.cell?_of_block (h _ (by simp only; omega) (by simp only; omega))⟩) w10 (HK1.out.cell 0) (HK2.out.cell 0))
    (fun h k b hb hne => (k b hb hne).trans (h b hb hne)) (fun W l o o' hl _ _ _ b hb _ => World.putObj_heap_other (by omega))
    (LI w10 (w.heap.size + 1 + 1) slot x) (LI.own (by omega)) ⟨rfl, rfl, rfl, Nat.le_refl _, fun _ _ _ => rfl, .slice none 0 0, [], HY10.out, World.ownsRow_nil _ _ _ _, rfl, fun j y h hj => by simp at hj⟩ ?assign ?body ?done
  case assign =>
    intro l v W K hK
    gi_wp2
    exact hK
  case body =>
    intro l pre y W hI hlen
    refine act_gen (fun a' => 86 ≤ a'.tmps.size ∧ a'.tmps[6]?.getD undef = .pointer (some ⟨w.heap.size + 1 + 1, 0, none⟩) ∧ a'.tmps[11]?.getD undef = .pointer (some ⟨w3.heap.size + 1, 0, none⟩) ∧ a'.tmps[13]?.getD undef = .slice (some ⟨gb, 128 * y.1, none⟩) (min 128 (x.length - 128 * y.1)) (min 128 (x.length - 128 * y.1)) ∧ a'.defers = []) ⟨by simp, rfl, rfl, rfl, rfl⟩ ?_
    rintro a' ⟨k0, k6, k11, k13, kd⟩
    obtain ⟨v, gs, b6, own6, hgl, hpc⟩ := hI.ex
    obtain ⟨A6, c6, rfl, hc6⟩ := own_slice own6
    have HIW := hide (HI10.out.move (hI.block _ HI10.out.lt (by omega)))
    have hgb : gb ≠ w.heap.size + 1 + 1 := by have := own_base HOwn.out gb rfl; omega
    have hgb2 : gb < w10.heap.size := by have := HG10.out.lt; omega
    have HRW := hide ((Rd.move HR10.out (fun ad e => by cases e; exact hI.block gb hgb2 hgb) : Rd W 1 (some ⟨gb, 0, none⟩) x.length (bv x)).piece rfl y.1 |>.below (bD (Below.refl W.heap.size W)))
    have hent := enters_of Tryz.func24 (by kernel_rfl) rfl
    have hlen2 : (pre.length : Int) ≤ 131072 := by omega
    have hwr1 : IntKind.i64.wrap (slot + 1) = slot + 1 := IntWalk.i64_in _ (by omega)
    have hwr2 : IntKind.i64.wrap (slot + 1 + (pre.length : Int)) = slot + 1 + (pre.length : Int) := IntWalk.i64_in _ (by omega)
    gi_wp2
    refine wpIn_region_any (by kernel_rfl) (lift_any ?hd ?hL _ _ _ _ (wpAny_of_held (S := fun w' => w'.cell? ⟨w3.heap.size + 1, 0, none⟩ = some (.int .i64 slot)) _ _ _ _ ?_))
    case hd =>
      intro i o c h
      have hm := Array.mem_of_getElem? h
      simp only [List.mem_toArray, List.mem_cons, List.not_mem_nil, or_false] at hm
      rcases hm with rfl | rfl | rfl | rfl | rfl | rfl | rfl | rfl | rfl | rfl | rfl | rfl <;> (intro e; cases e)
    case hL => exact fun ⟨_, _, h⟩ => h
    change wpAnyH _ _ _ _ _ 12 #[false, false, false, false, false, false, false, false, false, false, false, false] _ W.drew
    have hS0 : W.drew.cell? ⟨w3.heap.size + 1, 0, none⟩ = some (.int .i64 slot) := HIW.out.cell 0
    have m0 : W.drew.cell? ⟨w.heap.size + 1 + 1, 0, none⟩ = some (.slice A6 pre.length c6) := b6.cell 0
    obtain ⟨pv, hpv⟩ : ∃ pv, pv = Value.slice (some ⟨gb, 128 * y.1, none⟩) (min 128 (x.length - 128 * y.1)) (min 128 (x.length - 128 * y.1)) := ⟨_, rfl⟩
    rw [← hpv] at k13
    have HB6 := hide b6
    have HO6 := hide own6
    have HPC := hide hpc
    have HGL := hide hgl
    have HLI := hide hI
    clear b6 own6 hpc hgl hI
    have ac0_0 := k0
    have ac0_6 := k6
    have ac0_11 := k11
    have ac0_13 := k13
    refine take_mv (i := 6) (d := 77) (v := pv) rfl rfl (by kernel_rfl) (by kernel_rfl) (by kernel_rfl) (fun _ _ _ h => h) (by rfl) (fun w' hSw => ?_) hS0 (fun A => 86 ≤ A.tmps.size ∧ A.tmps[6]?.getD undef = .pointer (some ⟨w.heap.size + 1 + 1, 0, none⟩) ∧ A.tmps[11]?.getD undef = .pointer (some ⟨w3.heap.size + 1, 0, none⟩) ∧ A.tmps[77]?.getD undef = pv) ⟨by rw [Act.size_put]; exact ac0_0, (tget_ne _ _ _ _ (by decide)).trans ac0_6, (tget_ne _ _ _ _ (by decide)).trans ac0_11, tget_same _ _ _ (by have := ac0_0; omega)⟩ ?_
    · (try dsimp only at hSw); go_simp
    rintro ac1 ⟨ac1_0, ac1_6, ac1_11, ac1_77⟩
    refine take_mv (i := 1) (d := 72) (v := .int .i64 slot) rfl rfl (by kernel_rfl) (by kernel_rfl) (by kernel_rfl) (fun _ _ _ h => h) (by rfl) (fun w' hSw => ?_) hS0 (fun A => 86 ≤ A.tmps.size ∧ A.tmps[6]?.getD undef = .pointer (some ⟨w.heap.size + 1 + 1, 0, none⟩) ∧ A.tmps[77]?.getD undef = pv ∧ A.tmps[72]?.getD undef = .int .i64 slot) ⟨by rw [Act.size_put]; exact ac1_0, (tget_ne _ _ _ _ (by decide)).trans ac1_6, (tget_ne _ _ _ _ (by decide)).trans ac1_77, tget_same _ _ _ (by have := ac1_0; omega)⟩ ?_
    · (try dsimp only at hSw); go_simp
    rintro ac2 ⟨ac2_0, ac2_6, ac2_77, ac2_72⟩
    refine take_mv (i := 2) (d := 73) (v := .int .i64 (slot + 1)) rfl rfl (by kernel_rfl) (by kernel_rfl) (by kernel_rfl) (fun _ _ _ h => h) (by rfl) (fun w' hSw => ?_) hS0 (fun A => 86 ≤ A.tmps.size ∧ A.tmps[6]?.getD undef = .pointer (some ⟨w.heap.size + 1 + 1, 0, none⟩) ∧ A.tmps[77]?.getD undef = pv ∧ A.tmps[73]?.getD undef = .int .i64 (slot + 1)) ⟨by rw [Act.size_put]; exact ac2_0, (tget_ne _ _ _ _ (by decide)).trans ac2_6, (tget_ne _ _ _ _ (by decide)).trans ac2_77, tget_same _ _ _ (by have := ac2_0; omega)⟩ ?_
    · (try dsimp only at hSw); go_simp
    rintro ac3 ⟨ac3_0, ac3_6, ac3_77, ac3_73⟩
    refine with_tail 2 #[true, true, true, true, true, true, true, true, true, true, false, false] (fun A V => ∃ g2 q, 86 ≤ A.tmps.size ∧ A.tmps[6]?.getD undef = .pointer (some ⟨w.heap.size + 1 + 1, 0, none⟩) ∧ A.tmps[71]?.getD undef = .slice A6 pre.length c6 ∧ A.tmps[80]?.getD undef = .slice (some ⟨q, 0, none⟩) 1 1 ∧ Below W.heap.size W V ∧ Blk V g2 5 (bv (fill (chunk x y.1))).toArray ∧ W.heap.size ≤ g2 ∧ Blk V q 34 #[.int .i64 (slot + 1 + (pre.length : Int)), .slice (some ⟨g2, 0, none⟩) 128 128] ∧ V.cell? ⟨w3.heap.size + 1, 0, none⟩ = some (.int .i64 slot)) ?tail (fun tail => ?_)
    case tail =>
      rintro A V ⟨g2, q, q0, q6, q71, q80, hbV, hB2, hg2, hQ, hSV⟩
      obtain ⟨ti, hti, hz0, hz1, hz2⟩ := info_parts info_write
      have hszV : w10.heap.size ≤ V.heap.size := Nat.le_trans HLI.out.size hbV.size
      have hBI : w3.heap.size + 1 < w10.heap.size := HI10.out.lt
      refine comes1 (i := 10) (by kernel_rfl) ?_
      refine br_append (i := 10) (d := 81) rfl rfl rfl _ _ _ rfl w10.heap.size 34 ti _ 2 32 Tryz.underlying31 hti hz0 hz1 hz2 rfl (by omega) (.slice A6 pre.length c6) pre.length (wrC (slot + 1) gs) (eval_of q71) (own_below HO6.out hbV) ⟨q, 0, none⟩ 1 1 [.int .i64 (slot + 1 + (pre.length : Int)), .slice (some ⟨g2, 0, none⟩) 128 128] (eval_of q80) rfl (World.news_of_block hQ) (by simp [Value.oneCell']) (by omega) (by simp only [maxLen]; omega) (by omega) hszV ?_
      intro g' cap wx hown1 hgrow hat hlt'
      have hB6x := ((HB6.out.below hbV).grown hgrow (fun e => by have := own_base HO6.out _ e.symm; omega))
      have cx : wx.cell? ⟨w.heap.size + 1 + 1, 0, none⟩ = some (.slice A6 pre.length c6) := hB6x.cell 0
      have fx : wx.frozen? ⟨w.heap.size + 1 + 1, 0, none⟩ = false := hB6x.frozen 0
      have hSx : wx.cell? ⟨w3.heap.size + 1, 0, none⟩ = some (.int .i64 slot) := hgrow.cell hSV (fun e => by have := own_base HO6.out _ e.symm; simp at this; omega)
      refine ⟨hSx, ?_⟩
      obtain ⟨ac, hac⟩ : ∃ ac, ac = A.put (some 81) (.slice (some ⟨g', 0, none⟩) (pre.length + 1) cap) := ⟨_, rfl⟩
      have z6 : ac.tmps[6]?.getD undef = .pointer (some ⟨w.heap.size + 1 + 1, 0, none⟩) := by rw [hac]; exact (tget_ne _ _ _ _ (by decide)).trans q6
      have z81 : ac.tmps[81]?.getD undef = .slice (some ⟨g', 0, none⟩) (pre.length + 1) cap := by rw [hac]; exact tget_same _ _ _ (by omega)
      rw [← hac]
      clear hac
      have hfin := LI.step (B6 := w.heap.size + 1 + 1) (y := y) (by omega) HLI.out HB6.out HO6.out HGL.out HPC.out hbV hB2 hg2 hown1 hgrow
      have HFin := hide hfin
      clear hfin hown1 hgrow hat hlt' hB6x
      refine comes1 (i := 11) (by kernel_rfl) ?_
      refine br_skip (i := 11) (w' := wx.setCell ⟨w.heap.size + 1 + 1, 0, none⟩ (.slice (some ⟨g', 0, none⟩) (pre.length + 1) cap)) rfl (by rfl) ?_ ?_ ?_
      · go_simp
      · rw [← hSx]
        exact World.cell?_setCell_other _ _ _ _ (fun e => absurd (congrArg Addr.block e) (by simp; omega))
      · intro A'
        exact wpAnyH_done (by kernel_rfl) HFin.out 0
    refine comes3 (i := 0) (j := 3) (k := 7) (by kernel_rfl) ?_ ?_ ?_
    · skip
      refine br_value (i := 0) (d := 71) (v := .slice A6 pre.length c6) (w' := W.drew) rfl rfl (by rfl) ?_ hS0 (fun A => 86 ≤ A.tmps.size ∧ A.tmps[6]?.getD undef = .pointer (some ⟨w.heap.size + 1 + 1, 0, none⟩) ∧ A.tmps[77]?.getD undef = pv ∧ A.tmps[73]?.getD undef = .int .i64 (slot + 1) ∧ A.tmps[71]?.getD undef = .slice A6 pre.length c6) ⟨by rw [Act.size_put]; exact ac3_0, (tget_ne _ _ _ _ (by decide)).trans ac3_6, (tget_ne _ _ _ _ (by decide)).trans ac3_77, (tget_ne _ _ _ _ (by decide)).trans ac3_73, tget_same _ _ _ (by have := ac3_0; omega)⟩ ?_
      · go_simp
      rintro ac4 ⟨ac4_0, ac4_6, ac4_77, ac4_73, ac4_71⟩
      refine comes2 (i := 3) (j := 7) (by kernel_rfl) ?_ ?_
      · skip
        refine br_value (i := 3) (d := 74) (v := .slice A6 pre.length c6) (w' := W.drew) rfl rfl (by rfl) ?_ hS0 (fun A => 86 ≤ A.tmps.size ∧ A.tmps[6]?.getD undef = .pointer (some ⟨w.heap.size + 1 + 1, 0, none⟩) ∧ A.tmps[77]?.getD undef = pv ∧ A.tmps[73]?.getD undef = .int .i64 (slot + 1) ∧ A.tmps[71]?.getD undef = .slice A6 pre.length c6 ∧ A.tmps[74]?.getD undef = .slice A6 pre.length c6) ⟨by rw [Act.size_put]; exact ac4_0, (tget_ne _ _ _ _ (by decide)).trans ac4_6, (tget_ne _ _ _ _ (by decide)).trans ac4_77, (tget_ne _ _ _ _ (by decide)).trans ac4_73, (tget_ne _ _ _ _ (by decide)).trans ac4_71, tget_same _ _ _ (by have := ac4_0; omega)⟩ ?_
        · go_simp
        rintro ac5 ⟨ac5_0, ac5_6, ac5_77, ac5_73, ac5_71, ac5_74⟩
        refine take_mv (i := 4) (d := 75) (v := .int .i64 (pre.length : Int)) rfl rfl (by kernel_rfl) (by kernel_rfl) (by kernel_rfl) (fun _ _ _ h => h) (by rfl) (fun w' hSw => ?_) hS0 (fun A => 86 ≤ A.tmps.size ∧ A.tmps[6]?.getD undef = .pointer (some ⟨w.heap.size + 1 + 1, 0, none⟩) ∧ A.tmps[77]?.getD undef = pv ∧ A.tmps[73]?.getD undef = .int .i64 (slot + 1) ∧ A.tmps[71]?.getD undef = .slice A6 pre.length c6 ∧ A.tmps[75]?.getD undef = .int .i64 (pre.length : Int)) ⟨by rw [Act.size_put]; exact ac5_0, (tget_ne _ _ _ _ (by decide)).trans ac5_6, (tget_ne _ _ _ _ (by decide)).trans ac5_77, (tget_ne _ _ _ _ (by decide)).trans ac5_73, (tget_ne _ _ _ _ (by decide)).trans ac5_71, tget_same _ _ _ (by have := ac5_0; omega)⟩ ?_
        · (try dsimp only at hSw); go_simp
        rintro ac6 ⟨ac6_0, ac6_6, ac6_77, ac6_73, ac6_71, ac6_75⟩
        refine take_mv (i := 5) (d := 76) (v := .int .i64 (slot + 1 + (pre.length : Int))) rfl rfl (by kernel_rfl) (by kernel_rfl) (by kernel_rfl) (fun _ _ _ h => h) (by rfl) (fun w' hSw => ?_) hS0 (fun A => 86 ≤ A.tmps.size ∧ A.tmps[6]?.getD undef = .pointer (some ⟨w.heap.size + 1 + 1, 0, none⟩) ∧ A.tmps[77]?.getD undef = pv ∧ A.tmps[71]?.getD undef = .slice A6 pre.length c6 ∧ A.tmps[76]?.getD undef = .int .i64 (slot + 1 + (pre.length : Int))) ⟨by rw [Act.size_put]; exact ac6_0, (tget_ne _ _ _ _ (by decide)).trans ac6_6, (tget_ne _ _ _ _ (by decide)).trans ac6_77, (tget_ne _ _ _ _ (by decide)).trans ac6_71, tget_same _ _ _ (by have := ac6_0; omega)⟩ ?_
        · (try dsimp only at hSw); go_simp
        rintro ac7 ⟨ac7_0, ac7_6, ac7_77, ac7_71, ac7_76⟩
        refine comes1 (i := 7) (by kernel_rfl) ?_
        · skip
          refine br_call (i := 7) (d := 78) (f := 24) (args := #[pv]) rfl rfl (by rfl) ?_ ?_
          · go_simp
          rw [hpv]
          refine (sector_any (some ⟨gb, 128 * y.1, none⟩) _ _ (chunk x y.1) W.drew HRW.out (chunk_len _ _) (by omega)).mono ?_
          rintro e w2s ⟨⟨g2, rfl, hB2, hg2⟩, hb2⟩
          have hS2 : w2s.cell? ⟨w3.heap.size + 1, 0, none⟩ = some (.int .i64 slot) := bget hb2 hS0
          have m2 : w2s.cell? ⟨w.heap.size + 1 + 1, 0, none⟩ = some (.slice A6 pre.length c6) := bget hb2 m0
          have HV := hide (bT (bD (Below.refl W.heap.size W)) hb2)
          refine ⟨_, rfl, hS2, ?_⟩
          obtain ⟨ac8, ac8_e⟩ : ∃ A, A = ac7.put (some 78) (.slice (some ⟨g2, 0, none⟩) 128 128) := ⟨_, rfl⟩
          have ac8_all : 86 ≤ ac8.tmps.size ∧ ac8.tmps[6]?.getD undef = .pointer (some ⟨w.heap.size + 1 + 1, 0, none⟩) ∧ ac8.tmps[71]?.getD undef = .slice A6 pre.length c6 ∧ ac8.tmps[76]?.getD undef = .int .i64 (slot + 1 + (pre.length : Int)) ∧ ac8.tmps[78]?.getD undef = .slice (some ⟨g2, 0, none⟩) 128 128 := by rw [ac8_e]; exact ⟨by rw [Act.size_put]; exact ac7_0, (tget_ne _ _ _ _ (by decide)).trans ac7_6, (tget_ne _ _ _ _ (by decide)).trans ac7_71, (tget_ne _ _ _ _ (by decide)).trans ac7_76, tget_same _ _ _ (by have := ac7_0; omega)⟩
          rw [← ac8_e]
          clear ac8_e
          obtain ⟨ac8_0, ac8_6, ac8_71, ac8_76, ac8_78⟩ := ac8_all
          refine take_mv (i := 8) (d := 79) (v := .agg #[.int .i64 (slot + 1 + (pre.length : Int)), .slice (some ⟨g2, 0, none⟩) 128 128]) rfl rfl (by kernel_rfl) (by kernel_rfl) (by kernel_rfl) (fun _ _ _ h => h) (by rfl) (fun w' hSw => ?_) hS2 (fun A => 86 ≤ A.tmps.size ∧ A.tmps[6]?.getD undef = .pointer (some ⟨w.heap.size + 1 + 1, 0, none⟩) ∧ A.tmps[71]?.getD undef = .slice A6 pre.length c6 ∧ A.tmps[79]?.getD undef = .agg #[.int .i64 (slot + 1 + (pre.length : Int)), .slice (some ⟨g2, 0, none⟩) 128 128]) ⟨by rw [Act.size_put]; exact ac8_0, (tget_ne _ _ _ _ (by decide)).trans ac8_6, (tget_ne _ _ _ _ (by decide)).trans ac8_71, tget_same _ _ _ (by have := ac8_0; omega)⟩ ?_
          · (try dsimp only at hSw); go_simp
          rintro ac9 ⟨ac9_0, ac9_6, ac9_71, ac9_79⟩
          refine comes1 (i := 9) (by kernel_rfl) ?_
          · skip
            have hA9 := bA (Below.refl w2s.heap.size w2s) (.cells #[.int .i64 (slot + 1 + (pre.length : Int)), .slice (some ⟨g2, 0, none⟩) 128 128] 34)
            have hS9 := bget hA9 hS2
            have m9 := bget hA9 m2
            have HV9 := hide (bT HV.out hA9)
            have HB29 := hide (hB2.below hA9)
            have HQ9 := hide (Blk.new1 (w := w2s) rfl 34 #[.int .i64 (slot + 1 + (pre.length : Int)), .slice (some ⟨g2, 0, none⟩) 128 128])
            clear hA9
            refine br_value (i := 9) (d := 80) (v := .slice (some ⟨w2s.heap.size, 0, none⟩) 1 1) (w' := (w2s.alloc (.cells #[.int .i64 (slot + 1 + (pre.length : Int)), .slice (some ⟨g2, 0, none⟩) 128 128] 34))) rfl rfl (by rfl) ?_ hS9 (fun A => 86 ≤ A.tmps.size ∧ A.tmps[6]?.getD undef = .pointer (some ⟨w.heap.size + 1 + 1, 0, none⟩) ∧ A.tmps[71]?.getD undef = .slice A6 pre.length c6 ∧ A.tmps[80]?.getD undef = .slice (some ⟨w2s.heap.size, 0, none⟩) 1 1) ⟨by rw [Act.size_put]; exact ac9_0, (tget_ne _ _ _ _ (by decide)).trans ac9_6, (tget_ne _ _ _ _ (by decide)).trans ac9_71, tget_same _ _ _ (by have := ac9_0; omega)⟩ ?_
            · go_simp
            rintro ac10 ⟨ac10_0, ac10_6, ac10_71, ac10_80⟩
            exact tail _ _ ⟨g2, w2s.heap.size, ac10_0, ac10_6, ac10_71, ac10_80, HV9.out, HB29.out, hg2, HQ9.out, hS9⟩
      · skip
        refine br_call (i := 7) (d := 78) (f := 24) (args := #[pv]) rfl rfl (by rfl) ?_ ?_
        · go_simp
        rw [hpv]
        refine (sector_any (some ⟨gb, 128 * y.1, none⟩) _ _ (chunk x y.1) W.drew HRW.out (chunk_len _ _) (by omega)).mono ?_
        rintro e w2s ⟨⟨g2, rfl, hB2, hg2⟩, hb2⟩
        have hS2 : w2s.cell? ⟨w3.heap.size + 1, 0, none⟩ = some (.int .i64 slot) := bget hb2 hS0
        have m2 : w2s.cell? ⟨w.heap.size + 1 + 1, 0, none⟩ = some (.slice A6 pre.length c6) := bget hb2 m0
        have HV := hide (bT (bD (Below.refl W.heap.size W)) hb2)
        refine ⟨_, rfl, hS2, ?_⟩
        obtain ⟨ac11, ac11_e⟩ : ∃ A, A = ac4.put (some 78) (.slice (some ⟨g2, 0, none⟩) 128 128) := ⟨_, rfl⟩
        have ac11_all : 86 ≤ ac11.tmps.size ∧ ac11.tmps[6]?.getD undef = .pointer (some ⟨w.heap.size + 1 + 1, 0, none⟩) ∧ ac11.tmps[73]?.getD undef = .int .i64 (slot + 1) ∧ ac11.tmps[71]?.getD undef = .slice A6 pre.length c6 ∧ ac11.tmps[78]?.getD undef = .slice (some ⟨g2, 0, none⟩) 128 128 := by rw [ac11_e]; exact ⟨by rw [Act.size_put]; exact ac4_0, (tget_ne _ _ _ _ (by decide)).trans ac4_6, (tget_ne _ _ _ _ (by decide)).trans ac4_73, (tget_ne _ _ _ _ (by decide)).trans ac4_71, tget_same _ _ _ (by have := ac4_0; omega)⟩
        rw [← ac11_e]
        clear ac11_e
        obtain ⟨ac11_0, ac11_6, ac11_73, ac11_71, ac11_78⟩ := ac11_all
        refine comes1 (i := 3) (by kernel_rfl) ?_
        · skip
          refine br_value (i := 3) (d := 74) (v := .slice A6 pre.length c6) (w' := w2s) rfl rfl (by rfl) ?_ hS2 (fun A => 86 ≤ A.tmps.size ∧ A.tmps[6]?.getD undef = .pointer (some ⟨w.heap.size + 1 + 1, 0, none⟩) ∧ A.tmps[73]?.getD undef = .int .i64 (slot + 1) ∧ A.tmps[71]?.getD undef = .slice A6 pre.length c6 ∧ A.tmps[78]?.getD undef = .slice (some ⟨g2, 0, none⟩) 128 128 ∧ A.tmps[74]?.getD undef = .slice A6 pre.length c6) ⟨by rw [Act.size_put]; exact ac11_0, (tget_ne _ _ _ _ (by decide)).trans ac11_6, (tget_ne _ _ _ _ (by decide)).trans ac11_73, (tget_ne _ _ _ _ (by decide)).trans ac11_71, (tget_ne _ _ _ _ (by decide)).trans ac11_78, tget_same _ _ _ (by have := ac11_0; omega)⟩ ?_
          · go_simp
          rintro ac12 ⟨ac12_0, ac12_6, ac12_73, ac12_71, ac12_78, ac12_74⟩
          refine take_mv (i := 4) (d := 75) (v := .int .i64 (pre.length : Int)) rfl rfl (by kernel_rfl) (by kernel_rfl) (by kernel_rfl) (fun _ _ _ h => h) (by rfl) (fun w' hSw => ?_) hS2 (fun A => 86 ≤ A.tmps.size ∧ A.tmps[6]?.getD undef = .pointer (some ⟨w.heap.size + 1 + 1, 0, none⟩) ∧ A.tmps[73]?.getD undef = .int .i64 (slot + 1) ∧ A.tmps[71]?.getD undef = .slice A6 pre.length c6 ∧ A.tmps[78]?.getD undef = .slice (some ⟨g2, 0, none⟩) 128 128 ∧ A.tmps[75]?.getD undef = .int .i64 (pre.length : Int)) ⟨by rw [Act.size_put]; exact ac12_0, (tget_ne _ _ _ _ (by decide)).trans ac12_6, (tget_ne _ _ _ _ (by decide)).trans ac12_73, (tget_ne _ _ _ _ (by decide)).trans ac12_71, (tget_ne _ _ _ _ (by decide)).trans ac12_78, tget_same _ _ _ (by have := ac12_0; omega)⟩ ?_
          · (try dsimp only at hSw); go_simp
          rintro ac13 ⟨ac13_0, ac13_6, ac13_73, ac13_71, ac13_78, ac13_75⟩
          refine take_mv (i := 5) (d := 76) (v := .int .i64 (slot + 1 + (pre.length : Int))) rfl rfl (by kernel_rfl) (by kernel_rfl) (by kernel_rfl) (fun _ _ _ h => h) (by rfl) (fun w' hSw => ?_) hS2 (fun A => 86 ≤ A.tmps.size ∧ A.tmps[6]?.getD undef = .pointer (some ⟨w.heap.size + 1 + 1, 0, none⟩) ∧ A.tmps[71]?.getD undef = .slice A6 pre.length c6 ∧ A.tmps[78]?.getD undef = .slice (some ⟨g2, 0, none⟩) 128 128 ∧ A.tmps[76]?.getD undef = .int .i64 (slot + 1 + (pre.length : Int))) ⟨by rw [Act.size_put]; exact ac13_0, (tget_ne _ _ _ _ (by decide)).trans ac13_6, (tget_ne _ _ _ _ (by decide)).trans ac13_71, (tget_ne _ _ _ _ (by decide)).trans ac13_78, tget_same _ _ _ (by have := ac13_0; omega)⟩ ?_
          · (try dsimp only at hSw); go_simp
          rintro ac14 ⟨ac14_0, ac14_6, ac14_71, ac14_78, ac14_76⟩
          refine take_mv (i := 8) (d := 79) (v := .agg #[.int .i64 (slot + 1 + (pre.length : Int)), .slice (some ⟨g2, 0, none⟩) 128 128]) rfl rfl (by kernel_rfl) (by kernel_rfl) (by kernel_rfl) (fun _ _ _ h => h) (by rfl) (fun w' hSw => ?_) hS2 (fun A => 86 ≤ A.tmps.size ∧ A.tmps[6]?.getD undef = .pointer (some ⟨w.heap.size + 1 + 1, 0, none⟩) ∧ A.tmps[71]?.getD undef = .slice A6 pre.length c6 ∧ A.tmps[79]?.getD undef = .agg #[.int .i64 (slot + 1 + (pre.length : Int)), .slice (some ⟨g2, 0, none⟩) 128 128]) ⟨by rw [Act.size_put]; exact ac14_0, (tget_ne _ _ _ _ (by decide)).trans ac14_6, (tget_ne _ _ _ _ (by decide)).trans ac14_71, tget_same _ _ _ (by have := ac14_0; omega)⟩ ?_
          · (try dsimp only at hSw); go_simp
          rintro ac15 ⟨ac15_0, ac15_6, ac15_71, ac15_79⟩
          refine comes1 (i := 9) (by kernel_rfl) ?_
          · skip
            have hA9 := bA (Below.refl w2s.heap.size w2s) (.cells #[.int .i64 (slot + 1 + (pre.length : Int)), .slice (some ⟨g2, 0, none⟩) 128 128] 34)
            have hS9 := bget hA9 hS2
            have m9 := bget hA9 m2
            have HV9 := hide (bT HV.out hA9)
            have HB29 := hide (hB2.below hA9)
            have HQ9 := hide (Blk.new1 (w := w2s) rfl 34 #[.int .i64 (slot + 1 + (pre.length : Int)), .slice (some ⟨g2, 0, none⟩) 128 128])
            clear hA9
            refine br_value (i := 9) (d := 80) (v := .slice (some ⟨w2s.heap.size, 0, none⟩) 1 1) (w' := (w2s.alloc (.cells #[.int .i64 (slot + 1 + (pre.length : Int)), .slice (some ⟨g2, 0, none⟩) 128 128] 34))) rfl rfl (by rfl) ?_ hS9 (fun A => 86 ≤ A.tmps.size ∧ A.tmps[6]?.getD undef = .pointer (some ⟨w.heap.size + 1 + 1, 0, none⟩) ∧ A.tmps[71]?.getD undef = .slice A6 pre.length c6 ∧ A.tmps[80]?.getD undef = .slice (some ⟨w2s.heap.size, 0, none⟩) 1 1) ⟨by rw [Act.size_put]; exact ac15_0, (tget_ne _ _ _ _ (by decide)).trans ac15_6, (tget_ne _ _ _ _ (by decide)).trans ac15_71, tget_same _ _ _ (by have := ac15_0; omega)⟩ ?_
            · go_simp
            rintro ac16 ⟨ac16_0, ac16_6, ac16_71, ac16_80⟩
            exact tail _ _ ⟨g2, w2s.heap.size, ac16_0, ac16_6, ac16_71, ac16_80, HV9.out, HB29.out, hg2, HQ9.out, hS9⟩
    · skip
      refine br_value (i := 3) (d := 74) (v := .slice A6 pre.length c6) (w' := W.drew) rfl rfl (by rfl) ?_ hS0 (fun A => 86 ≤ A.tmps.size ∧ A.tmps[6]?.getD undef = .pointer (some ⟨w.heap.size + 1 + 1, 0, none⟩) ∧ A.tmps[77]?.getD undef = pv ∧ A.tmps[73]?.getD undef = .int .i64 (slot + 1) ∧ A.tmps[74]?.getD undef = .slice A6 pre.length c6) ⟨by rw [Act.size_put]; exact ac3_0, (tget_ne _ _ _ _ (by decide)).trans ac3_6, (tget_ne _ _ _ _ (by decide)).trans ac3_77, (tget_ne _ _ _ _ (by decide)).trans ac3_73, tget_same _ _ _ (by have := ac3_0; omega)⟩ ?_
      · go_simp
      rintro ac17 ⟨ac17_0, ac17_6, ac17_77, ac17_73, ac17_74⟩
      refine take_mv (i := 4) (d := 75) (v := .int .i64 (pre.length : Int)) rfl rfl (by kernel_rfl) (by kernel_rfl) (by kernel_rfl) (fun _ _ _ h => h) (by rfl) (fun w' hSw => ?_) hS0 (fun A => 86 ≤ A.tmps.size ∧ A.tmps[6]?.getD undef = .pointer (some ⟨w.heap.size + 1 + 1, 0, none⟩) ∧ A.tmps[77]?.getD undef = pv ∧ A.tmps[73]?.getD undef = .int .i64 (slot + 1) ∧ A.tmps[75]?.getD undef = .int .i64 (pre.length : Int)) ⟨by rw [Act.size_put]; exact ac17_0, (tget_ne _ _ _ _ (by decide)).trans ac17_6, (tget_ne _ _ _ _ (by decide)).trans ac17_77, (tget_ne _ _ _ _ (by decide)).trans ac17_73, tget_same _ _ _ (by have := ac17_0; omega)⟩ ?_
      · (try dsimp only at hSw); go_simp
      rintro ac18 ⟨ac18_0, ac18_6, ac18_77, ac18_73, ac18_75⟩
      refine take_mv (i := 5) (d := 76) (v := .int .i64 (slot + 1 + (pre.length : Int))) rfl rfl (by kernel_rfl) (by kernel_rfl) (by kernel_rfl) (fun _ _ _ h => h) (by rfl) (fun w' hSw => ?_) hS0 (fun A => 86 ≤ A.tmps.size ∧ A.tmps[6]?.getD undef = .pointer (some ⟨w.heap.size + 1 + 1, 0, none⟩) ∧ A.tmps[77]?.getD undef = pv ∧ A.tmps[76]?.getD undef = .int .i64 (slot + 1 + (pre.length : Int))) ⟨by rw [Act.size_put]; exact ac18_0, (tget_ne _ _ _ _ (by decide)).trans ac18_6, (tget_ne _ _ _ _ (by decide)).trans ac18_77, tget_same _ _ _ (by have := ac18_0; omega)⟩ ?_
      · (try dsimp only at hSw); go_simp
      rintro ac19 ⟨ac19_0, ac19_6, ac19_77, ac19_76⟩
      refine comes2 (i := 0) (j := 7) (by kernel_rfl) ?_ ?_
      · skip
        refine br_value (i := 0) (d := 71) (v := .slice A6 pre.length c6) (w' := W.drew) rfl rfl (by rfl) ?_ hS0 (fun A => 86 ≤ A.tmps.size ∧ A.tmps[6]?.getD undef = .pointer (some ⟨w.heap.size + 1 + 1, 0, none⟩) ∧ A.tmps[77]?.getD undef = pv ∧ A.tmps[76]?.getD undef = .int .i64 (slot + 1 + (pre.length : Int)) ∧ A.tmps[71]?.getD undef = .slice A6 pre.length c6) ⟨by rw [Act.size_put]; exact ac19_0, (tget_ne _ _ _ _ (by decide)).trans ac19_6, (tget_ne _ _ _ _ (by decide)).trans ac19_77, (tget_ne _ _ _ _ (by decide)).trans ac19_76, tget_same _ _ _ (by have := ac19_0; omega)⟩ ?_
        · go_simp
        rintro ac20 ⟨ac20_0, ac20_6, ac20_77, ac20_76, ac20_71⟩
        refine comes1 (i := 7) (by kernel_rfl) ?_
        · skip
          refine br_call (i := 7) (d := 78) (f := 24) (args := #[pv]) rfl rfl (by rfl) ?_ ?_
          · go_simp
          rw [hpv]
          refine (sector_any (some ⟨gb, 128 * y.1, none⟩) _ _ (chunk x y.1) W.drew HRW.out (chunk_len _ _) (by omega)).mono ?_
          rintro e w2s ⟨⟨g2, rfl, hB2, hg2⟩, hb2⟩
          have hS2 : w2s.cell? ⟨w3.heap.size + 1, 0, none⟩ = some (.int .i64 slot) := bget hb2 hS0
          have m2 : w2s.cell? ⟨w.heap.size + 1 + 1, 0, none⟩ = some (.slice A6 pre.length c6) := bget hb2 m0
          have HV := hide (bT (bD (Below.refl W.heap.size W)) hb2)
          refine ⟨_, rfl, hS2, ?_⟩
          obtain ⟨ac21, ac21_e⟩ : ∃ A, A = ac20.put (some 78) (.slice (some ⟨g2, 0, none⟩) 128 128) := ⟨_, rfl⟩
          have ac21_all : 86 ≤ ac21.tmps.size ∧ ac21.tmps[6]?.getD undef = .pointer (some ⟨w.heap.size + 1 + 1, 0, none⟩) ∧ ac21.tmps[76]?.getD undef = .int .i64 (slot + 1 + (pre.length : Int)) ∧ ac21.tmps[71]?.getD undef = .slice A6 pre.length c6 ∧ ac21.tmps[78]?.getD undef = .slice (some ⟨g2, 0, none⟩) 128 128 := by rw [ac21_e]; exact ⟨by rw [Act.size_put]; exact ac20_0, (tget_ne _ _ _ _ (by decide)).trans ac20_6, (tget_ne _ _ _ _ (by decide)).trans ac20_76, (tget_ne _ _ _ _ (by decide)).trans ac20_71, tget_same _ _ _ (by have := ac20_0; omega)⟩
          rw [← ac21_e]
          clear ac21_e
          obtain ⟨ac21_0, ac21_6, ac21_76, ac21_71, ac21_78⟩ := ac21_all
          refine take_mv (i := 8) (d := 79) (v := .agg #[.int .i64 (slot + 1 + (pre.length : Int)), .slice (some ⟨g2, 0, none⟩) 128 128]) rfl rfl (by kernel_rfl) (by kernel_rfl) (by kernel_rfl) (fun _ _ _ h => h) (by rfl) (fun w' hSw => ?_) hS2 (fun A => 86 ≤ A.tmps.size ∧ A.tmps[6]?.getD undef = .pointer (some ⟨w.heap.size + 1 + 1, 0, none⟩) ∧ A.tmps[71]?.getD undef = .slice A6 pre.length c6 ∧ A.tmps[79]?.getD undef = .agg #[.int .i64 (slot + 1 + (pre.length : Int)), .slice (some ⟨g2, 0, none⟩) 128 128]) ⟨by rw [Act.size_put]; exact ac21_0, (tget_ne _ _ _ _ (by decide)).trans ac21_6, (tget_ne _ _ _ _ (by decide)).trans ac21_71, tget_same _ _ _ (by have := ac21_0; omega)⟩ ?_
          · (try dsimp only at hSw); go_simp
          rintro ac22 ⟨ac22_0, ac22_6, ac22_71, ac22_79⟩
          refine comes1 (i := 9) (by kernel_rfl) ?_
          · skip
            have hA9 := bA (Below.refl w2s.heap.size w2s) (.cells #[.int .i64 (slot + 1 + (pre.length : Int)), .slice (some ⟨g2, 0, none⟩) 128 128] 34)
            have hS9 := bget hA9 hS2
            have m9 := bget hA9 m2
            have HV9 := hide (bT HV.out hA9)
            have HB29 := hide (hB2.below hA9)
            have HQ9 := hide (Blk.new1 (w := w2s) rfl 34 #[.int .i64 (slot + 1 + (pre.length : Int)), .slice (some ⟨g2, 0, none⟩) 128 128])
            clear hA9
            refine br_value (i := 9) (d := 80) (v := .slice (some ⟨w2s.heap.size, 0, none⟩) 1 1) (w' := (w2s.alloc (.cells #[.int .i64 (slot + 1 + (pre.length : Int)), .slice (some ⟨g2, 0, none⟩) 128 128] 34))) rfl rfl (by rfl) ?_ hS9 (fun A => 86 ≤ A.tmps.size ∧ A.tmps[6]?.getD undef = .pointer (some ⟨w.heap.size + 1 + 1, 0, none⟩) ∧ A.tmps[71]?.getD undef = .slice A6 pre.length c6 ∧ A.tmps[80]?.getD undef = .slice (some ⟨w2s.heap.size, 0, none⟩) 1 1) ⟨by rw [Act.size_put]; exact ac22_0, (tget_ne _ _ _ _ (by decide)).trans ac22_6, (tget_ne _ _ _ _ (by decide)).trans ac22_71, tget_same _ _ _ (by have := ac22_0; omega)⟩ ?_
            · go_simp
            rintro ac23 ⟨ac23_0, ac23_6, ac23_71, ac23_80⟩
            exact tail _ _ ⟨g2, w2s.heap.size, ac23_0, ac23_6, ac23_71, ac23_80, HV9.out, HB29.out, hg2, HQ9.out, hS9⟩
      · skip
        refine br_call (i := 7) (d := 78) (f := 24) (args := #[pv]) rfl rfl (by rfl) ?_ ?_
        · go_simp
        rw [hpv]
        refine (sector_any (some ⟨gb, 128 * y.1, none⟩) _ _ (chunk x y.1) W.drew HRW.out (chunk_len _ _) (by omega)).mono ?_
        rintro e w2s ⟨⟨g2, rfl, hB2, hg2⟩, hb2⟩
        have hS2 : w2s.cell? ⟨w3.heap.size + 1, 0, none⟩ = some (.int .i64 slot) := bget hb2 hS0
        have m2 : w2s.cell? ⟨w.heap.size + 1 + 1, 0, none⟩ = some (.slice A6 pre.length c6) := bget hb2 m0
        have HV := hide (bT (bD (Below.refl W.heap.size W)) hb2)
        refine ⟨_, rfl, hS2, ?_⟩
        obtain ⟨ac24, ac24_e⟩ : ∃ A, A = ac19.put (some 78) (.slice (some ⟨g2, 0, none⟩) 128 128) := ⟨_, rfl⟩
        have ac24_all : 86 ≤ ac24.tmps.size ∧ ac24.tmps[6]?.getD undef = .pointer (some ⟨w.heap.size + 1 + 1, 0, none⟩) ∧ ac24.tmps[76]?.getD undef = .int .i64 (slot + 1 + (pre.length : Int)) ∧ ac24.tmps[78]?.getD undef = .slice (some ⟨g2, 0, none⟩) 128 128 := by rw [ac24_e]; exact ⟨by rw [Act.size_put]; exact ac19_0, (tget_ne _ _ _ _ (by decide)).trans ac19_6, (tget_ne _ _ _ _ (by decide)).trans ac19_76, tget_same _ _ _ (by have := ac19_0; omega)⟩
        rw [← ac24_e]
        clear ac24_e
        obtain ⟨ac24_0, ac24_6, ac24_76, ac24_78⟩ := ac24_all
        refine take_mv (i := 8) (d := 79) (v := .agg #[.int .i64 (slot + 1 + (pre.length : Int)), .slice (some ⟨g2, 0, none⟩) 128 128]) rfl rfl (by kernel_rfl) (by kernel_rfl) (by kernel_rfl) (fun _ _ _ h => h) (by rfl) (fun w' hSw => ?_) hS2 (fun A => 86 ≤ A.tmps.size ∧ A.tmps[6]?.getD undef = .pointer (some ⟨w.heap.size + 1 + 1, 0, none⟩) ∧ A.tmps[79]?.getD undef = .agg #[.int .i64 (slot + 1 + (pre.length : Int)), .slice (some ⟨g2, 0, none⟩) 128 128]) ⟨by rw [Act.size_put]; exact ac24_0, (tget_ne _ _ _ _ (by decide)).trans ac24_6, tget_same _ _ _ (by have := ac24_0; omega)⟩ ?_
        · (try dsimp only at hSw); go_simp
        rintro ac25 ⟨ac25_0, ac25_6, ac25_79⟩
        refine comes2 (i := 0) (j := 9) (by kernel_rfl) ?_ ?_
        · skip
          refine br_value (i := 0) (d := 71) (v := .slice A6 pre.length c6) (w' := w2s) rfl rfl (by rfl) ?_ hS2 (fun A => 86 ≤ A.tmps.size ∧ A.tmps[6]?.getD undef = .pointer (some ⟨w.heap.size + 1 + 1, 0, none⟩) ∧ A.tmps[79]?.getD undef = .agg #[.int .i64 (slot + 1 + (pre.length : Int)), .slice (some ⟨g2, 0, none⟩) 128 128] ∧ A.tmps[71]?.getD undef = .slice A6 pre.length c6) ⟨by rw [Act.size_put]; exact ac25_0, (tget_ne _ _ _ _ (by decide)).trans ac25_6, (tget_ne _ _ _ _ (by decide)).trans ac25_79, tget_same _ _ _ (by have := ac25_0; omega)⟩ ?_
          · go_simp
          rintro ac26 ⟨ac26_0, ac26_6, ac26_79, ac26_71⟩
          refine comes1 (i := 9) (by kernel_rfl) ?_
          · skip
            have hA9 := bA (Below.refl w2s.heap.size w2s) (.cells #[.int .i64 (slot + 1 + (pre.length : Int)), .slice (some ⟨g2, 0, none⟩) 128 128] 34)
            have hS9 := bget hA9 hS2
            have m9 := bget hA9 m2
            have HV9 := hide (bT HV.out hA9)
            have HB29 := hide (hB2.below hA9)
            have HQ9 := hide (Blk.new1 (w := w2s) rfl 34 #[.int .i64 (slot + 1 + (pre.length : Int)), .slice (some ⟨g2, 0, none⟩) 128 128])
            clear hA9
            refine br_value (i := 9) (d := 80) (v := .slice (some ⟨w2s.heap.size, 0, none⟩) 1 1) (w' := (w2s.alloc (.cells #[.int .i64 (slot + 1 + (pre.length : Int)), .slice (some ⟨g2, 0, none⟩) 128 128] 34))) rfl rfl (by rfl) ?_ hS9 (fun A => 86 ≤ A.tmps.size ∧ A.tmps[6]?.getD undef = .pointer (some ⟨w.heap.size + 1 + 1, 0, none⟩) ∧ A.tmps[71]?.getD undef = .slice A6 pre.length c6 ∧ A.tmps[80]?.getD undef = .slice (some ⟨w2s.heap.size, 0, none⟩) 1 1) ⟨by rw [Act.size_put]; exact ac26_0, (tget_ne _ _ _ _ (by decide)).trans ac26_6, (tget_ne _ _ _ _ (by decide)).trans ac26_71, tget_same _ _ _ (by have := ac26_0; omega)⟩ ?_
            · go_simp
            rintro ac27 ⟨ac27_0, ac27_6, ac27_71, ac27_80⟩
            exact tail _ _ ⟨g2, w2s.heap.size, ac27_0, ac27_6, ac27_71, ac27_80, HV9.out, HB29.out, hg2, HQ9.out, hS9⟩
        · skip
          have hA9 := bA (Below.refl w2s.heap.size w2s) (.cells #[.int .i64 (slot + 1 + (pre.length : Int)), .slice (some ⟨g2, 0, none⟩) 128 128] 34)
          have hS9 := bget hA9 hS2
          have m9 := bget hA9 m2
          have HV9 := hide (bT HV.out hA9)
          have HB29 := hide (hB2.below hA9)
          have HQ9 := hide (Blk.new1 (w := w2s) rfl 34 #[.int .i64 (slot + 1 + (pre.length : Int)), .slice (some ⟨g2, 0, none⟩) 128 128])
          clear hA9
          refine br_value (i := 9) (d := 80) (v := .slice (some ⟨w2s.heap.size, 0, none⟩) 1 1) (w' := (w2s.alloc (.cells #[.int .i64 (slot + 1 + (pre.length : Int)), .slice (some ⟨g2, 0, none⟩) 128 128] 34))) rfl rfl (by rfl) ?_ hS9 (fun A => 86 ≤ A.tmps.size ∧ A.tmps[6]?.getD undef = .pointer (some ⟨w.heap.size + 1 + 1, 0, none⟩) ∧ A.tmps[80]?.getD undef = .slice (some ⟨w2s.heap.size, 0, none⟩) 1 1) ⟨by rw [Act.size_put]; exact ac25_0, (tget_ne _ _ _ _ (by decide)).trans ac25_6, tget_same _ _ _ (by have := ac25_0; omega)⟩ ?_
          · go_simp
          rintro ac28 ⟨ac28_0, ac28_6, ac28_80⟩
          refine comes1 (i := 0) (by kernel_rfl) ?_
          · skip
            refine br_value (i := 0) (d := 71) (v := .slice A6 pre.length c6) (w' := (w2s.alloc (.cells #[.int .i64 (slot + 1 + (pre.length : Int)), .slice (some ⟨g2, 0, none⟩) 128 128] 34))) rfl rfl (by rfl) ?_ hS9 (fun A => 86 ≤ A.tmps.size ∧ A.tmps[6]?.getD undef = .pointer (some ⟨w.heap.size + 1 + 1, 0, none⟩) ∧ A.tmps[80]?.getD undef = .slice (some ⟨w2s.heap.size, 0, none⟩) 1 1 ∧ A.tmps[71]?.getD undef = .slice A6 pre.length c6) ⟨by rw [Act.size_put]; exact ac28_0, (tget_ne _ _ _ _ (by decide)).trans ac28_6, (tget_ne _ _ _ _ (by decide)).trans ac28_80, tget_same _ _ _ (by have := ac28_0; omega)⟩ ?_
            · go_simp
            rintro ac29 ⟨ac29_0, ac29_6, ac29_80, ac29_71⟩
            exact tail _ _ ⟨g2, w2s.heap.size, ac29_0, ac29_6, ac29_71, ac29_80, HV9.out, HB29.out, hg2, HQ9.out, hS9⟩
    · skip
      refine br_call (i := 7) (d := 78) (f := 24) (args := #[pv]) rfl rfl (by rfl) ?_ ?_
      · go_simp
      rw [hpv]
      refine (sector_any (some ⟨gb, 128 * y.1, none⟩) _ _ (chunk x y.1) W.drew HRW.out (chunk_len _ _) (by omega)).mono ?_
      rintro e w2s ⟨⟨g2, rfl, hB2, hg2⟩, hb2⟩
      have hS2 : w2s.cell? ⟨w3.heap.size + 1, 0, none⟩ = some (.int .i64 slot) := bget hb2 hS0
      have m2 : w2s.cell? ⟨w.heap.size + 1 + 1, 0, none⟩ = some (.slice A6 pre.length c6) := bget hb2 m0
      have HV := hide (bT (bD (Below.refl W.heap.size W)) hb2)
      refine ⟨_, rfl, hS2, ?_⟩
      obtain ⟨ac30, ac30_e⟩ : ∃ A, A = ac3.put (some 78) (.slice (some ⟨g2, 0, none⟩) 128 128) := ⟨_, rfl⟩
      have ac30_all : 86 ≤ ac30.tmps.size ∧ ac30.tmps[6]?.getD undef = .pointer (some ⟨w.heap.size + 1 + 1, 0, none⟩) ∧ ac30.tmps[73]?.getD undef = .int .i64 (slot + 1) ∧ ac30.tmps[78]?.getD undef = .slice (some ⟨g2, 0, none⟩) 128 128 := by rw [ac30_e]; exact ⟨by rw [Act.size_put]; exact ac3_0, (tget_ne _ _ _ _ (by decide)).trans ac3_6, (tget_ne _ _ _ _ (by decide)).trans ac3_73, tget_same _ _ _ (by have := ac3_0; omega)⟩
      rw [← ac30_e]
      clear ac30_e
      obtain ⟨ac30_0, ac30_6, ac30_73, ac30_78⟩ := ac30_all
      refine comes2 (i := 0) (j := 3) (by kernel_rfl) ?_ ?_
      · skip
        refine br_value (i := 0) (d := 71) (v := .slice A6 pre.length c6) (w' := w2s) rfl rfl (by rfl) ?_ hS2 (fun A => 86 ≤ A.tmps.size ∧ A.tmps[6]?.getD undef = .pointer (some ⟨w.heap.size + 1 + 1, 0, none⟩) ∧ A.tmps[73]?.getD undef = .int .i64 (slot + 1) ∧ A.tmps[78]?.getD undef = .slice (some ⟨g2, 0, none⟩) 128 128 ∧ A.tmps[71]?.getD undef = .slice A6 pre.length c6) ⟨by rw [Act.size_put]; exact ac30_0, (tget_ne _ _ _ _ (by decide)).trans ac30_6, (tget_ne _ _ _ _ (by decide)).trans ac30_73, (tget_ne _ _ _ _ (by decide)).trans ac30_78, tget_same _ _ _ (by have := ac30_0; omega)⟩ ?_
        · go_simp
        rintro ac31 ⟨ac31_0, ac31_6, ac31_73, ac31_78, ac31_71⟩
        refine comes1 (i := 3) (by kernel_rfl) ?_
        · skip
          refine br_value (i := 3) (d := 74) (v := .slice A6 pre.length c6) (w' := w2s) rfl rfl (by rfl) ?_ hS2 (fun A => 86 ≤ A.tmps.size ∧ A.tmps[6]?.getD undef = .pointer (some ⟨w.heap.size + 1 + 1, 0, none⟩) ∧ A.tmps[73]?.getD undef = .int .i64 (slot + 1) ∧ A.tmps[78]?.getD undef = .slice (some ⟨g2, 0, none⟩) 128 128 ∧ A.tmps[71]?.getD undef = .slice A6 pre.length c6 ∧ A.tmps[74]?.getD undef = .slice A6 pre.length c6) ⟨by rw [Act.size_put]; exact ac31_0, (tget_ne _ _ _ _ (by decide)).trans ac31_6, (tget_ne _ _ _ _ (by decide)).trans ac31_73, (tget_ne _ _ _ _ (by decide)).trans ac31_78, (tget_ne _ _ _ _ (by decide)).trans ac31_71, tget_same _ _ _ (by have := ac31_0; omega)⟩ ?_
          · go_simp
          rintro ac32 ⟨ac32_0, ac32_6, ac32_73, ac32_78, ac32_71, ac32_74⟩
          refine take_mv (i := 4) (d := 75) (v := .int .i64 (pre.length : Int)) rfl rfl (by kernel_rfl) (by kernel_rfl) (by kernel_rfl) (fun _ _ _ h => h) (by rfl) (fun w' hSw => ?_) hS2 (fun A => 86 ≤ A.tmps.size ∧ A.tmps[6]?.getD undef = .pointer (some ⟨w.heap.size + 1 + 1, 0, none⟩) ∧ A.tmps[73]?.getD undef = .int .i64 (slot + 1) ∧ A.tmps[78]?.getD undef = .slice (some ⟨g2, 0, none⟩) 128 128 ∧ A.tmps[71]?.getD undef = .slice A6 pre.length c6 ∧ A.tmps[75]?.getD undef = .int .i64 (pre.length : Int)) ⟨by rw [Act.size_put]; exact ac32_0, (tget_ne _ _ _ _ (by decide)).trans ac32_6, (tget_ne _ _ _ _ (by decide)).trans ac32_73, (tget_ne _ _ _ _ (by decide)).trans ac32_78, (tget_ne _ _ _ _ (by decide)).trans ac32_71, tget_same _ _ _ (by have := ac32_0; omega)⟩ ?_
          · (try dsimp only at hSw); go_simp
          rintro ac33 ⟨ac33_0, ac33_6, ac33_73, ac33_78, ac33_71, ac33_75⟩
          refine take_mv (i := 5) (d := 76) (v := .int .i64 (slot + 1 + (pre.length : Int))) rfl rfl (by kernel_rfl) (by kernel_rfl) (by kernel_rfl) (fun _ _ _ h => h) (by rfl) (fun w' hSw => ?_) hS2 (fun A => 86 ≤ A.tmps.size ∧ A.tmps[6]?.getD undef = .pointer (some ⟨w.heap.size + 1 + 1, 0, none⟩) ∧ A.tmps[78]?.getD undef = .slice (some ⟨g2, 0, none⟩) 128 128 ∧ A.tmps[71]?.getD undef = .slice A6 pre.length c6 ∧ A.tmps[76]?.getD undef = .int .i64 (slot + 1 + (pre.length : Int))) ⟨by rw [Act.size_put]; exact ac33_0, (tget_ne _ _ _ _ (by decide)).trans ac33_6, (tget_ne _ _ _ _ (by decide)).trans ac33_78, (tget_ne _ _ _ _ (by decide)).trans ac33_71, tget_same _ _ _ (by have := ac33_0; omega)⟩ ?_
          · (try dsimp only at hSw); go_simp
          rintro ac34 ⟨ac34_0, ac34_6, ac34_78, ac34_71, ac34_76⟩
          refine take_mv (i := 8) (d := 79) (v := .agg #[.int .i64 (slot + 1 + (pre.length : Int)), .slice (some ⟨g2, 0, none⟩) 128 128]) rfl rfl (by kernel_rfl) (by kernel_rfl) (by kernel_rfl) (fun _ _ _ h => h) (by rfl) (fun w' hSw => ?_) hS2 (fun A => 86 ≤ A.tmps.size ∧ A.tmps[6]?.getD undef = .pointer (some ⟨w.heap.size + 1 + 1, 0, none⟩) ∧ A.tmps[71]?.getD undef = .slice A6 pre.length c6 ∧ A.tmps[79]?.getD undef = .agg #[.int .i64 (slot + 1 + (pre.length : Int)), .slice (some ⟨g2, 0, none⟩) 128 128]) ⟨by rw [Act.size_put]; exact ac34_0, (tget_ne _ _ _ _ (by decide)).trans ac34_6, (tget_ne _ _ _ _ (by decide)).trans ac34_71, tget_same _ _ _ (by have := ac34_0; omega)⟩ ?_
          · (try dsimp only at hSw); go_simp
          rintro ac35 ⟨ac35_0, ac35_6, ac35_71, ac35_79⟩
          refine comes1 (i := 9) (by kernel_rfl) ?_
          · skip
            have hA9 := bA (Below.refl w2s.heap.size w2s) (.cells #[.int .i64 (slot + 1 + (pre.length : Int)), .slice (some ⟨g2, 0, none⟩) 128 128] 34)
            have hS9 := bget hA9 hS2
            have m9 := bget hA9 m2
            have HV9 := hide (bT HV.out hA9)
            have HB29 := hide (hB2.below hA9)
            have HQ9 := hide (Blk.new1 (w := w2s) rfl 34 #[.int .i64 (slot + 1 + (pre.length : Int)), .slice (some ⟨g2, 0, none⟩) 128 128])
            clear hA9
            refine br_value (i := 9) (d := 80) (v := .slice (some ⟨w2s.heap.size, 0, none⟩) 1 1) (w' := (w2s.alloc (.cells #[.int .i64 (slot + 1 + (pre.length : Int)), .slice (some ⟨g2, 0, none⟩) 128 128] 34))) rfl rfl (by rfl) ?_ hS9 (fun A => 86 ≤ A.tmps.size ∧ A.tmps[6]?.getD undef = .pointer (some ⟨w.heap.size + 1 + 1, 0, none⟩) ∧ A.tmps[71]?.getD undef = .slice A6 pre.length c6 ∧ A.tmps[80]?.getD undef = .slice (some ⟨w2s.heap.size, 0, none⟩) 1 1) ⟨by rw [Act.size_put]; exact ac35_0, (tget_ne _ _ _ _ (by decide)).trans ac35_6, (tget_ne _ _ _ _ (by decide)).trans ac35_71, tget_same _ _ _ (by have := ac35_0; omega)⟩ ?_
            · go_simp
            rintro ac36 ⟨ac36_0, ac36_6, ac36_71, ac36_80⟩
            exact tail _ _ ⟨g2, w2s.heap.size, ac36_0, ac36_6, ac36_71, ac36_80, HV9.out, HB29.out, hg2, HQ9.out, hS9⟩
      · skip
        refine br_value (i := 3) (d := 74) (v := .slice A6 pre.length c6) (w' := w2s) rfl rfl (by rfl) ?_ hS2 (fun A => 86 ≤ A.tmps.size ∧ A.tmps[6]?.getD undef = .pointer (some ⟨w.heap.size + 1 + 1, 0, none⟩) ∧ A.tmps[73]?.getD undef = .int .i64 (slot + 1) ∧ A.tmps[78]?.getD undef = .slice (some ⟨g2, 0, none⟩) 128 128 ∧ A.tmps[74]?.getD undef = .slice A6 pre.length c6) ⟨by rw [Act.size_put]; exact ac30_0, (tget_ne _ _ _ _ (by decide)).trans ac30_6, (tget_ne _ _ _ _ (by decide)).trans ac30_73, (tget_ne _ _ _ _ (by decide)).trans ac30_78, tget_same _ _ _ (by have := ac30_0; omega)⟩ ?_
        · go_simp
        rintro ac37 ⟨ac37_0, ac37_6, ac37_73, ac37_78, ac37_74⟩
        refine take_mv (i := 4) (d := 75) (v := .int .i64 (pre.length : Int)) rfl rfl (by kernel_rfl) (by kernel_rfl) (by kernel_rfl) (fun _ _ _ h => h) (by rfl) (fun w' hSw => ?_) hS2 (fun A => 86 ≤ A.tmps.size ∧ A.tmps[6]?.getD undef = .pointer (some ⟨w.heap.size + 1 + 1, 0, none⟩) ∧ A.tmps[73]?.getD undef = .int .i64 (slot + 1) ∧ A.tmps[78]?.getD undef = .slice (some ⟨g2, 0, none⟩) 128 128 ∧ A.tmps[75]?.getD undef = .int .i64 (pre.length : Int)) ⟨by rw [Act.size_put]; exact ac37_0, (tget_ne _ _ _ _ (by decide)).trans ac37_6, (tget_ne _ _ _ _ (by decide)).trans ac37_73, (tget_ne _ _ _ _ (by decide)).trans ac37_78, tget_same _ _ _ (by have := ac37_0; omega)⟩ ?_
        · (try dsimp only at hSw); go_simp
        rintro ac38 ⟨ac38_0, ac38_6, ac38_73, ac38_78, ac38_75⟩
        refine take_mv (i := 5) (d := 76) (v := .int .i64 (slot + 1 + (pre.length : Int))) rfl rfl (by kernel_rfl) (by kernel_rfl) (by kernel_rfl) (fun _ _ _ h => h) (by rfl) (fun w' hSw => ?_) hS2 (fun A => 86 ≤ A.tmps.size ∧ A.tmps[6]?.getD undef = .pointer (some ⟨w.heap.size + 1 + 1, 0, none⟩) ∧ A.tmps[78]?.getD undef = .slice (some ⟨g2, 0, none⟩) 128 128 ∧ A.tmps[76]?.getD undef = .int .i64 (slot + 1 + (pre.length : Int))) ⟨by rw [Act.size_put]; exact ac38_0, (tget_ne _ _ _ _ (by decide)).trans ac38_6, (tget_ne _ _ _ _ (by decide)).trans ac38_78, tget_same _ _ _ (by have := ac38_0; omega)⟩ ?_
        · (try dsimp only at hSw); go_simp
        rintro ac39 ⟨ac39_0, ac39_6, ac39_78, ac39_76⟩
        refine take_mv (i := 8) (d := 79) (v := .agg #[.int .i64 (slot + 1 + (pre.length : Int)), .slice (some ⟨g2, 0, none⟩) 128 128]) rfl rfl (by kernel_rfl) (by kernel_rfl) (by kernel_rfl) (fun _ _ _ h => h) (by rfl) (fun w' hSw => ?_) hS2 (fun A => 86 ≤ A.tmps.size ∧ A.tmps[6]?.getD undef = .pointer (some ⟨w.heap.size + 1 + 1, 0, none⟩) ∧ A.tmps[79]?.getD undef = .agg #[.int .i64 (slot + 1 + (pre.length : Int)), .slice (some ⟨g2, 0, none⟩) 128 128]) ⟨by rw [Act.size_put]; exact ac39_0, (tget_ne _ _ _ _ (by decide)).trans ac39_6, tget_same _ _ _ (by have := ac39_0; omega)⟩ ?_
        · (try dsimp only at hSw); go_simp
        rintro ac40 ⟨ac40_0, ac40_6, ac40_79⟩
        refine comes2 (i := 0) (j := 9) (by kernel_rfl) ?_ ?_
        · skip
          refine br_value (i := 0) (d := 71) (v := .slice A6 pre.length c6) (w' := w2s) rfl rfl (by rfl) ?_ hS2 (fun A => 86 ≤ A.tmps.size ∧ A.tmps[6]?.getD undef = .pointer (some ⟨w.heap.size + 1 + 1, 0, none⟩) ∧ A.tmps[79]?.getD undef = .agg #[.int .i64 (slot + 1 + (pre.length : Int)), .slice (some ⟨g2, 0, none⟩) 128 128] ∧ A.tmps[71]?.getD undef = .slice A6 pre.length c6) ⟨by rw [Act.size_put]; exact ac40_0, (tget_ne _ _ _ _ (by decide)).trans ac40_6, (tget_ne _ _ _ _ (by decide)).trans ac40_79, tget_same _ _ _ (by have := ac40_0; omega)⟩ ?_
          · go_simp
          rintro ac41 ⟨ac41_0, ac41_6, ac41_79, ac41_71⟩
          refine comes1 (i := 9) (by kernel_rfl) ?_
          · skip
            have hA9 := bA (Below.refl w2s.heap.size w2s) (.cells #[.int .i64 (slot + 1 + (pre.length : Int)), .slice (some ⟨g2, 0, none⟩) 128 128] 34)
            have hS9 := bget hA9 hS2
            have m9 := bget hA9 m2
            have HV9 := hide (bT HV.out hA9)
            have HB29 := hide (hB2.below hA9)
            have HQ9 := hide (Blk.new1 (w := w2s) rfl 34 #[.int .i64 (slot + 1 + (pre.length : Int)), .slice (some ⟨g2, 0, none⟩) 128 128])
            clear hA9
            refine br_value (i := 9) (d := 80) (v := .slice (some ⟨w2s.heap.size, 0, none⟩) 1 1) (w' := (w2s.alloc (.cells #[.int .i64 (slot + 1 + (pre.length : Int)), .slice (some ⟨g2, 0, none⟩) 128 128] 34))) rfl rfl (by rfl) ?_ hS9 (fun A => 86 ≤ A.tmps.size ∧ A.tmps[6]?.getD undef = .pointer (some ⟨w.heap.size + 1 + 1, 0, none⟩) ∧ A.tmps[71]?.getD undef = .slice A6 pre.length c6 ∧ A.tmps[80]?.getD undef = .slice (some ⟨w2s.heap.size, 0, none⟩) 1 1) ⟨by rw [Act.size_put]; exact ac41_0, (tget_ne _ _ _ _ (by decide)).trans ac41_6, (tget_ne _ _ _ _ (by decide)).trans ac41_71, tget_same _ _ _ (by have := ac41_0; omega)⟩ ?_
            · go_simp
            rintro ac42 ⟨ac42_0, ac42_6, ac42_71, ac42_80⟩
            exact tail _ _ ⟨g2, w2s.heap.size, ac42_0, ac42_6, ac42_71, ac42_80, HV9.out, HB29.out, hg2, HQ9.out, hS9⟩
        · skip
          have hA9 := bA (Below.refl w2s.heap.size w2s) (.cells #[.int .i64 (slot + 1 + (pre.length : Int)), .slice (some ⟨g2, 0, none⟩) 128 128] 34)
          have hS9 := bget hA9 hS2
          have m9 := bget hA9 m2
          have HV9 := hide (bT HV.out hA9)
          have HB29 := hide (hB2.below hA9)
          have HQ9 := hide (Blk.new1 (w := w2s) rfl 34 #[.int .i64 (slot + 1 + (pre.length : Int)), .slice (some ⟨g2, 0, none⟩) 128 128])
          clear hA9
          refine br_value (i := 9) (d := 80) (v := .slice (some ⟨w2s.heap.size, 0, none⟩) 1 1) (w' := (w2s.alloc (.cells #[.int .i64 (slot + 1 + (pre.length : Int)), .slice (some ⟨g2, 0, none⟩) 128 128] 34))) rfl rfl (by rfl) ?_ hS9 (fun A => 86 ≤ A.tmps.size ∧ A.tmps[6]?.getD undef = .pointer (some ⟨w.heap.size + 1 + 1, 0, none⟩) ∧ A.tmps[80]?.getD undef = .slice (some ⟨w2s.heap.size, 0, none⟩) 1 1) ⟨by rw [Act.size_put]; exact ac40_0, (tget_ne _ _ _ _ (by decide)).trans ac40_6, tget_same _ _ _ (by have := ac40_0; omega)⟩ ?_
          · go_simp
          rintro ac43 ⟨ac43_0, ac43_6, ac43_80⟩
          refine comes1 (i := 0) (by kernel_rfl) ?_
          · skip
            refine br_value (i := 0) (d := 71) (v := .slice A6 pre.length c6) (w' := (w2s.alloc (.cells #[.int .i64 (slot + 1 + (pre.length : Int)), .slice (some ⟨g2, 0, none⟩) 128 128] 34))) rfl rfl (by rfl) ?_ hS9 (fun A => 86 ≤ A.tmps.size ∧ A.tmps[6]?.getD undef = .pointer (some ⟨w.heap.size + 1 + 1, 0, none⟩) ∧ A.tmps[80]?.getD undef = .slice (some ⟨w2s.heap.size, 0, none⟩) 1 1 ∧ A.tmps[71]?.getD undef = .slice A6 pre.length c6) ⟨by rw [Act.size_put]; exact ac43_0, (tget_ne _ _ _ _ (by decide)).trans ac43_6, (tget_ne _ _ _ _ (by decide)).trans ac43_80, tget_same _ _ _ (by have := ac43_0; omega)⟩ ?_
            · go_simp
            rintro ac44 ⟨ac44_0, ac44_6, ac44_80, ac44_71⟩
            exact tail _ _ ⟨g2, w2s.heap.size, ac44_0, ac44_6, ac44_71, ac44_80, HV9.out, HB29.out, hg2, HQ9.out, hS9⟩
  case done =>
    intro D xs W hD hS hI hK
    obtain ⟨v, gs, b6, own6, hgl, hpc⟩ := hI.ex
    rw [← hgl] at own6
    obtain ⟨A6, c6, rfl, hc6⟩ := own_slice own6
    have hfarS := LI.far (B6 := w.heap.size + 1 + 1) (slot := slot) hgl hpc
    have HFS := hide hfarS
    have HLO := hide (LI.out (B := w.heap.size) (g := g) (epoch := epoch) (B6 := w.heap.size + 1 + 1) (by omega) hS own6 hgl hpc (by rw [← HCR.out]; exact HG10.out.move (hI.block _ HG10.out.lt (by omega))))
    clear hfarS hgl
    have HZW := hide (HZ10.out.move (hI.block _ HZ10.out.lt (by omega)))
    have HIW := hide (HI10.out.move (hI.block _ HI10.out.lt (by omega)))
    have HGW := hide (HG10.out.move (hI.block _ HG10.out.lt (by omega)))
    have HI := hide hI
    have H6 := hide b6
    have HO6 := hide own6
    have HPC := hide hpc
    have m6 : W.cell? ⟨w.heap.size + 1 + 1, 0, none⟩ = some (.slice A6 gs.length c6) := b6.cell 0
    have mf6 := b6.frozen 0
    have m70 : W.cell? ⟨w.heap.size + 1 + 1 + 1, 0, none⟩ = some (.int .i64 0) := HZW.out.cell 0
    have mf70 := HZW.out.frozen 0
    have m71 : W.cell? ⟨w.heap.size + 1 + 1 + 1, 1, none⟩ = some (.slice none 0 0) := HZW.out.cell 1
    have mf71 := HZW.out.frozen 1
    have mI : W.cell? ⟨w3.heap.size + 1, 0, none⟩ = some (.int .i64 slot) := HIW.out.cell 0
    have HK := hide hK
    clear hI b6 own6 hpc hK
    dsimp only
    go_wp2_with fail
    refine wp_region_noPanic ?_
    go_region_law (fail)
    all_goals refine NoPanic.normal ?_
    all_goals go_wp2_with fail
    all_goals
      have hK2 : ((((W.setCell ⟨w.heap.size + 1 + 1, 0, none⟩ (.slice A6 gs.length c6)).setCell ⟨w.heap.size + 1 + 1 + 1, 0, none⟩ (.int .i64 slot)).setCell ⟨w.heap.size + 1 + 1 + 1, 1, none⟩ (.slice (some ⟨g, 0, none⟩) 128 128)).drew).heap[D]? = some (.deferred (some [])) :=
        (KeepsOthers.setCell _ ⟨w.heap.size + 1 + 1 + 1, 1, none⟩ _).same D _ ((KeepsOthers.setCell _ ⟨w.heap.size + 1 + 1 + 1, 0, none⟩ _).same D _ ((KeepsOthers.setCell W ⟨w.heap.size + 1 + 1, 0, none⟩ (.slice A6 gs.length c6)).same D _ HK.out rfl) rfl) rfl
      refine ⟨by simp, .inl ⟨_, _, rfl, run_takeDeferred hK2, ?_⟩⟩
      have hg10 : g < w10.heap.size := HG10.out.lt
      have hz10 : w.heap.size + 1 + 1 + 1 < w10.heap.size := HZ10.out.lt
      have hLO2 := (((HLO.out.set (q := w.heap.size + 1 + 1) (o := 0) (by omega) (fun k hk => by have := HFS.out k hk; omega) (fun e => by have := own_base HO6.out _ e; omega) (.slice A6 gs.length c6)).set (q := w.heap.size + 1 + 1 + 1) (o := 0) (by omega) (fun k hk => by have := HFS.out k hk; omega) (fun e => by have := own_base HO6.out _ e; omega) (.int .i64 slot)).set (q := w.heap.size + 1 + 1 + 1) (o := 1) (by omega) (fun k hk => by have := HFS.out k hk; omega) (fun e => by have := own_base HO6.out _ e; omega) (.slice (some ⟨g, 0, none⟩) 128 128)).drew
      have hLO3 := hLO2.other (grownBy_putObj' _ D (.deferred none)) (fun r e => by cases e; exact ⟨_, hK2, rfl⟩)
      have hb6 := ((H6.out.set_ 0 (.slice A6 gs.length c6)).far (p := ⟨w.heap.size + 1 + 1 + 1, 0, none⟩) (by simp) (.int .i64 slot)).far (p := ⟨w.heap.size + 1 + 1 + 1, 1, none⟩) (by simp) (.slice (some ⟨g, 0, none⟩) 128 128)
      have hb7 := ((HZW.out.far (p := ⟨w.heap.size + 1 + 1, 0, none⟩) (by simp) (.slice A6 gs.length c6)).set_ 0 (.int .i64 slot)).set_ 1 (.slice (some ⟨g, 0, none⟩) 128 128)
      have hb6' := (Blk.drew_ hb6).other (grownBy_putObj' _ D (.deferred none)) (fun r e => by cases e; exact ⟨_, hK2, rfl⟩)
      have hb7' := (Blk.drew_ hb7).other (grownBy_putObj' _ D (.deferred none)) (fun r e => by cases e; exact ⟨_, hK2, rfl⟩)
      have r6 := hb6'.cell 0
      have r70 := hb7'.cell 0
      have r71 := hb7'.cell 1
      simp at r6 r70 r71
      have hbW : Below w.heap.size w W := by
        have h1 := bT HB3.out HB5'.out
        have h2 : Below w.heap.size w w10 := (h1.trans (HB9.out.mono (by omega))).trans (HB10.out.mono (by omega))
        exact ⟨HI.out.os.trans h2.os, HI.out.tape.trans h2.tape, HI.out.output.trans h2.output, Nat.le_trans h2.size HI.out.size, fun b hb => (HI.out.block b (by omega) (by omega)).trans (h2.block b hb)⟩
      have hbF := (bD (bS (bS (bS hbW (b := w.heap.size + 1 + 1) (o := 0) (by omega) (.slice A6 gs.length c6)) (b := w.heap.size + 1 + 1 + 1) (o := 0) (by omega) (.int .i64 slot)) (b := w.heap.size + 1 + 1 + 1) (o := 1) (by omega) (.slice (some ⟨g, 0, none⟩) 128 128)))
      refine ⟨.tuple #[.slice A6 gs.length c6, .agg #[.int .i64 slot, .slice (some ⟨g, 0, none⟩) 128 128], .int .i64 0], ?_, ⟨g, gs, A6, c6, by rw [HSlot.out], ?_⟩, hbF.trans (belowK_b (n₀ := w.heap.size) (w := w10) (by omega) _ D _ _ hD hK2 rfl rfl)⟩
      · simp [results, Tryz.results6, go_sem, r6, r70, r71]
      · rw [← HXE.out, ← HSlot.out]; exact hLO3
end Go.Proofs.YtnaapkoladiomaaGreatDoor.B
