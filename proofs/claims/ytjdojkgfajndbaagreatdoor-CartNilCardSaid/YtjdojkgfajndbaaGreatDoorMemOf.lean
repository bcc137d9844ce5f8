/- cart.memoryOf of a new ledger's state. -/
import Derived.Test.YtjdojkgfajndbaaGreatDoorSound
import Derived.Test.YtjdojkgfajndbaaGreatDoorMap
import Derived.Deep.RegionHeld3
namespace Go.Proofs.YtjdojkgfajndbaaGreatDoor.B
open Go.RowKit

/-- What a cell holds. (A word of its own: a region's cells whose values do not matter.) -/
def fcell (w : World) (a : Addr) : Value := (w.cell? a).getD undef
theorem fcell_of {w : World} {a : Addr} {v : Value} (h : w.cell? a = some v) : w.cell? a = some (fcell w a) := by simp [fcell, h]

/-- What holds when k levels are taken apart. -/
structure MInv (room lsn now : Int) (A : Option Addr) (n c : Nat) (ss : List ByteArray) (w : World) (k : Nat) (wr : World) : Prop where
  ex : ∃ v m, Blk wr (w.heap.size + 1 + 1 + 1 + 1 + 1) 81 #[.int .i64 room, .int .i64 lsn, .int .i64 now, v, .map (some (w.heap.size + 1 + 1)), .map (some (w.heap.size + 1 + 1 + 1)), .map (some (w.heap.size + 1 + 1 + 1 + 1)), .int .i64 (wt0 ss : Nat), .int .i64 0, .int .i64 0] ∧
    wr.ownsRow (w.heap.size + 1 + 1 + 1 + 1 + 1 + 1) 9 1 v k (strs (ss.take k)) ∧ MapOf wr (w.heap.size + 1 + 1) m
  box : Blk wr w.heap.size 47 (stC room lsn now A n c)
  res : Blk wr (w.heap.size + 1) 81 #[.int .i64 0, .int .i64 0, .int .i64 0, .slice none 0 0, .map none, .map none, .map none, .int .i64 0, .int .i64 0, .int .i64 0]
  low : Below w.heap.size w wr

/-- What holds when the memory's variable is laid. -/
structure MStart (room lsn now : Int) (A : Option Addr) (n c : Nat) (w W : World) : Prop where
  t : Blk W (w.heap.size + 1 + 1 + 1 + 1 + 1) 81 #[.int .i64 room, .int .i64 lsn, .int .i64 now, .slice none 0 0, .map (some (w.heap.size + 1 + 1)), .map (some (w.heap.size + 1 + 1 + 1)), .map (some (w.heap.size + 1 + 1 + 1 + 1)), .int .i64 0, .int .i64 0, .int .i64 0]
  ml : MapOf W (w.heap.size + 1 + 1) []
  box : Blk W w.heap.size 47 (stC room lsn now A n c)
  res : Blk W (w.heap.size + 1) 81 #[.int .i64 0, .int .i64 0, .int .i64 0, .slice none 0 0, .map none, .map none, .map none, .int .i64 0, .int .i64 0, .int .i64 0]
  low : Below w.heap.size w W
theorem MStart.mk' (room lsn now : Int) (A : Option Addr) (n c : Nat) (w : World) : MStart room lsn now A n c w (((((((w.alloc (Obj.cells (stC room lsn now A n c) 47)).alloc (Obj.cells #[.int .i64 0, .int .i64 0, .int .i64 0, .slice none 0 0, .map none, .map none, .map none, .int .i64 0, .int .i64 0, .int .i64 0] 81)).alloc (Obj.map #[] 0)).alloc (Obj.map #[] 0)).alloc (Obj.map #[] 0)).alloc (Obj.cells #[.int .i64 room, .int .i64 lsn, .int .i64 now, .slice none 0 0, .map (some (w.heap.size + 1 + 1)), .map (some (w.heap.size + 1 + 1 + 1)), .map (some (w.heap.size + 1 + 1 + 1 + 1)), .int .i64 0, .int .i64 0, .int .i64 0] 81))) where
  t := Blk.new1 (by simp) _ _
  ml := by
    have h := (MapOf.made ((w.alloc (Obj.cells (stC room lsn now A n c) 47)).alloc (Obj.cells #[.int .i64 0, .int .i64 0, .int .i64 0, .slice none 0 0, .map none, .map none, .map none, .int .i64 0, .int .i64 0, .int .i64 0] 81)))
    have h2 := ((h.alloc (Obj.map #[] 0)).alloc (Obj.map #[] 0)).alloc (Obj.cells #[.int .i64 room, .int .i64 lsn, .int .i64 now, .slice none 0 0, .map (some (w.heap.size + 1 + 1)), .map (some (w.heap.size + 1 + 1 + 1)), .map (some (w.heap.size + 1 + 1 + 1 + 1)), .int .i64 0, .int .i64 0, .int .i64 0] 81)
    simpa using h2
  box := (((((Blk.new1 rfl _ _).alloc _).alloc _).alloc _).alloc _).alloc _
  res := ((((Blk.new1 (by simp) _ _).alloc _).alloc _).alloc _).alloc _
  low := bA (bA (bA (bA (bA (bA (Below.refl _ _) _) _) _) _) _) _

theorem MInv.start {room lsn now : Int} {A : Option Addr} {n c : Nat} {ss : List ByteArray} {w W w2 : World} (h : MStart room lsn now A n c w W) (hb : Below W.drew.heap.size W.drew w2) : MInv room lsn now A n c ss w 0 (((w2.setCell ⟨w.heap.size + 1 + 1 + 1 + 1 + 1, 7, none⟩ (.int .i64 (wt0 ss : Nat))).setCell ⟨w.heap.size + 1 + 1 + 1 + 1 + 1, 8, none⟩ (.int .i64 0)).setCell ⟨w.heap.size + 1 + 1 + 1 + 1 + 1, 9, none⟩ (.int .i64 0)) where
  ex := by
    have T := ((((Blk.drew_ h.t).below hb).set_ 7 (.int .i64 (wt0 ss : Nat))).set_ 8 (.int .i64 0)).set_ 9 (.int .i64 0)
    have hm : MapOf W.drew (w.heap.size + 1 + 1) [] := h.ml
    exact ⟨_, [], by simpa using T, own_nil _ _ _ _, (((hm.below hb).set (by simp) _).set (by simp) _).set (by simp) _⟩
  box := ((((Blk.drew_ h.box).below hb).far (by simp; omega) _).far (by simp; omega) _).far (by simp; omega) _
  res := ((((Blk.drew_ h.res).below hb).far (by simp) _).far (by simp) _).far (by simp) _
  low := bS (bS (bS (bT (bD h.low) hb) (by omega) _) (by omega) _) (by omega) _

theorem MInv.step {room lsn now : Int} {A : Option Addr} {n c k : Nat} {ss : List ByteArray} {w wr w2 w3 : World} {s : ByteArray} {v : Value} {o o' : Obj} {g' cap : Nat} {m' : List (ByteArray × Value)} (h : MInv room lsn now A n c ss w k wr) (hs : ss[k]? = some s)
    (hB : Blk wr (w.heap.size + 1 + 1 + 1 + 1 + 1) 81 #[.int .i64 room, .int .i64 lsn, .int .i64 now, v, .map (some (w.heap.size + 1 + 1)), .map (some (w.heap.size + 1 + 1 + 1)), .map (some (w.heap.size + 1 + 1 + 1 + 1)), .int .i64 (wt0 ss : Nat), .int .i64 0, .int .i64 0])
    (hv : wr.ownsRow (w.heap.size + 1 + 1 + 1 + 1 + 1 + 1) 9 1 v k (strs (ss.take k))) (hgrow : ((wr.alloc o).alloc o').grownBy w2 v.ownBlock)
    (hown : w2.ownsRow (w.heap.size + 1 + 1 + 1 + 1 + 1 + 1) 9 1 (.slice (some ⟨g', 0, none⟩) (k + 1) cap) (k + 1) (strs (ss.take k) ++ [.string s]))
    (hm : MapOf w3 (w.heap.size + 1 + 1) m') (hg3 : (w2.setCell ⟨w.heap.size + 1 + 1 + 1 + 1 + 1, 3, none⟩ (.slice (some ⟨g', 0, none⟩) (k + 1) cap)).grownBy w3 (some (w.heap.size + 1 + 1))) :
    MInv room lsn now A n c ss w (k + 1) w3 := by
  have vB : ∀ q, v.ownBlock = some q → w.heap.size + 1 + 1 + 1 + 1 + 1 + 1 ≤ q := own_base hv
  have hsz := h.low.size
  have hsz2 := Nat.le_trans (bA (bA (Below.refl wr.heap.size wr) o) o').size hgrow.size
  refine ⟨⟨_, m', ?_, own_move (v := .slice (some ⟨g', 0, none⟩) (k + 1) cap) (by rw [take_snoc hs]; simpa [strs] using hown) fun q hq => ?_, hm⟩, ?_, ?_, ?_⟩
  · have := (((((hB.alloc o).alloc o').grown hgrow (fun e => by have := vB _ e.symm; omega)).set_ 3 (.slice (some ⟨g', 0, none⟩) (k + 1) cap))).grown hg3 (by simp; try omega)
    simpa using this
  · have hb := own_base hown q hq
    have hl := own_lt hown q hq
    have e1 := hg3.block q (by simpa [World.setCell] using hl) (by simp; omega)
    rw [e1, Below.heap_setCell _ _ _ _ (by simp; omega)]
  · exact ((((h.box.alloc o).alloc o').grown hgrow (fun e => by have := vB _ e.symm; omega)).far (by simp; omega) _).grown hg3 (by simp; omega)
  · exact ((((h.res.alloc o).alloc o').grown hgrow (fun e => by have := vB _ e.symm; omega)).far (by simp) _).grown hg3 (by simp)
  · have l2 : Below w.heap.size w w2 := (bA (bA h.low o) o').grown hgrow (bA (bA h.low o) o').size (fun q hq => by have := vB _ hq; omega)
    have l3 : Below w.heap.size w (w2.setCell ⟨w.heap.size + 1 + 1 + 1 + 1 + 1, 3, none⟩ (.slice (some ⟨g', 0, none⟩) (k + 1) cap)) := bS l2 (by omega) _
    exact l3.grown hg3 l3.size (fun q hq => by cases hq; omega)

set_option maxRecDepth 100000 in
set_option maxHeartbeats 3200000 in
theorem memoryOf0 (room lsn now : Int) (A : Option Addr) (n c : Nat) (ss : List ByteArray) (w : World) (hl : ss.length = n) (h2 : n ≤ 512) (hs40 : ∀ s ∈ ss, s.size ≤ 40) (hr : Rd w 3 A n (lvCells ss)) :
    Calls Tryz.prog 38 #[stV room lsn now A n c] w fun e w' => (∃ A2 c2 b1 b2 b3, e = .returned (.agg #[.int .i64 room, .int .i64 lsn, .int .i64 now, .slice A2 n c2, .map (some b1), .map (some b2), .map (some b3), .int .i64 (wt0 ss : Nat), .int .i64 0, .int .i64 0])) ∧ Below w.heap.size w w' := by
  have hmm := @run_makeMap Tryz.prog
  have HL := hide hl
  have HZ := hide hs40
  have HR := hide hr
  clear hl hs40 hr
  go_enter Tryz.func38, Tryz.ntmps38
  go_wp2_with fail
  have h0 := MStart.mk' room lsn now A n c w
  have H0 := hide h0
  generalize ((((((w.alloc (Obj.cells (stC room lsn now A n c) 47)).alloc (Obj.cells #[.int .i64 0, .int .i64 0, .int .i64 0, .slice none 0 0, .map none, .map none, .map none, .int .i64 0, .int .i64 0, .int .i64 0] 81)).alloc (Obj.map #[] 0)).alloc (Obj.map #[] 0)).alloc (Obj.map #[] 0)).alloc (Obj.cells #[.int .i64 room, .int .i64 lsn, .int .i64 now, .slice none 0 0, .map (some (w.heap.size + 1 + 1)), .map (some (w.heap.size + 1 + 1 + 1)), .map (some (w.heap.size + 1 + 1 + 1 + 1)), .int .i64 0, .int .i64 0, .int .i64 0] 81)) = W1 at h0 H0 ⊢
  obtain ⟨ht, hml, hbox, hres, hlow⟩ := h0
  have x0 : W1.cell? ⟨w.heap.size, 0, none⟩ = some (.int .i64 room) := hbox.cell 0
  have x1 : W1.cell? ⟨w.heap.size, 1, none⟩ = some (.int .i64 lsn) := hbox.cell 1
  have x2 : W1.cell? ⟨w.heap.size, 2, none⟩ = some (.int .i64 now) := hbox.cell 2
  have x3 : W1.cell? ⟨w.heap.size, 3, none⟩ = some (.slice A n c) := hbox.cell 3
  have x4 : W1.cell? ⟨w.heap.size, 4, none⟩ = some (.slice none 0 0) := hbox.cell 4
  have x5 : W1.cell? ⟨w.heap.size, 5, none⟩ = some (.slice none 0 0) := hbox.cell 5
  have y7 : W1.cell? ⟨w.heap.size + 1 + 1 + 1 + 1 + 1, 7, none⟩ = some (fcell W1 ⟨w.heap.size + 1 + 1 + 1 + 1 + 1, 7, none⟩) := fcell_of (ht.cell 7)
  have y8 : W1.cell? ⟨w.heap.size + 1 + 1 + 1 + 1 + 1, 8, none⟩ = some (fcell W1 ⟨w.heap.size + 1 + 1 + 1 + 1 + 1, 8, none⟩) := fcell_of (ht.cell 8)
  have y9 : W1.cell? ⟨w.heap.size + 1 + 1 + 1 + 1 + 1, 9, none⟩ = some (fcell W1 ⟨w.heap.size + 1 + 1 + 1 + 1 + 1, 9, none⟩) := fcell_of (ht.cell 9)
  have z7 := ht.frozen 7
  have z8 := ht.frozen 8
  have z9 := ht.frozen 9
  have HT := hide ht
  have HM := hide hml
  have HB := hide hbox
  have HRs := hide hres
  have HLo := hide hlow
  clear ht hml hbox hres hlow
  go_region_held3 (fun w' => w'.cell? ⟨w.heap.size, 0, none⟩ = some (.int .i64 room) ∧ w'.cell? ⟨w.heap.size, 1, none⟩ = some (.int .i64 lsn) ∧ w'.cell? ⟨w.heap.size, 2, none⟩ = some (.int .i64 now) ∧ w'.cell? ⟨w.heap.size, 3, none⟩ = some (.slice A n c) ∧ w'.cell? ⟨w.heap.size, 4, none⟩ = some (.slice none 0 0) ∧ w'.cell? ⟨w.heap.size, 5, none⟩ = some (.slice none 0 0) ∧
      w'.cell? ⟨w.heap.size + 1 + 1 + 1 + 1 + 1, 7, none⟩ = some (fcell w' ⟨w.heap.size + 1 + 1 + 1 + 1 + 1, 7, none⟩) ∧ w'.cell? ⟨w.heap.size + 1 + 1 + 1 + 1 + 1, 8, none⟩ = some (fcell w' ⟨w.heap.size + 1 + 1 + 1 + 1 + 1, 8, none⟩) ∧ w'.cell? ⟨w.heap.size + 1 + 1 + 1 + 1 + 1, 9, none⟩ = some (fcell w' ⟨w.heap.size + 1 + 1 + 1 + 1 + 1, 9, none⟩) ∧
      w'.frozen? ⟨w.heap.size + 1 + 1 + 1 + 1 + 1, 7, none⟩ = false ∧ w'.frozen? ⟨w.heap.size + 1 + 1 + 1 + 1 + 1, 8, none⟩ = false ∧ w'.frozen? ⟨w.heap.size + 1 + 1 + 1 + 1 + 1, 9, none⟩ = false)
    (first
      | (refine ⟨x0, x1, x2, x3, x4, x5, y7, y8, y9, z7, z8, z9⟩)
      | (refine ⟨bget hb2 x0, bget hb2 x1, bget hb2 x2, bget hb2 x3, bget hb2 x4, bget hb2 x5, fcell_of (bget hb2 y7), fcell_of (bget hb2 y8), fcell_of (bget hb2 y9), ((Blk.drew_ HT.out).below hb2).frozen 7, ((Blk.drew_ HT.out).below hb2).frozen 8, ((Blk.drew_ HT.out).below hb2).frozen 9⟩)
      | (have B := ((((Blk.drew_ HB.out).below hb2).far (p := ⟨w.heap.size + 1 + 1 + 1 + 1 + 1, 7, none⟩) (by simp; omega) (.int .i64 (wt0 ss : Nat))).far (p := ⟨w.heap.size + 1 + 1 + 1 + 1 + 1, 8, none⟩) (by simp; omega) (.int .i64 0)).far (p := ⟨w.heap.size + 1 + 1 + 1 + 1 + 1, 9, none⟩) (by simp; omega) (.int .i64 0)
         have T := ((((Blk.drew_ HT.out).below hb2).set_ 7 (.int .i64 (wt0 ss : Nat))).set_ 8 (.int .i64 0)).set_ 9 (.int .i64 0)
         exact ⟨B.cell 0, B.cell 1, B.cell 2, B.cell 3, B.cell 4, B.cell 5, fcell_of (T.cell 7), fcell_of (T.cell 8), fcell_of (T.cell 9), T.frozen 7, T.frozen 8, T.frozen 9⟩))
    (first
      | (go_at_call 78; refine (weight0 room lsn now A n c ss _ HL.out h2 HZ.out (HR.out.below (bD HLo.out))).mono ?_; rintro e w2 ⟨rfl, hb2⟩))
  rename_i hHeld
  have hI : MInv room lsn now A n c ss w 0 (((w2.setCell ⟨w.heap.size + 1 + 1 + 1 + 1 + 1, 7, none⟩ (.int .i64 (wt0 ss : Nat))).setCell ⟨w.heap.size + 1 + 1 + 1 + 1 + 1, 8, none⟩ (.int .i64 0)).setCell ⟨w.heap.size + 1 + 1 + 1 + 1 + 1, 9, none⟩ (.int .i64 0)) := MInv.start H0.out hb2
  clear hHeld hb2 x0 x1 x2 x3 x4 x5 y7 y8 y9 z7 z8 z9 HT HM HB HRs HLo H0
  generalize ((w2.setCell ⟨w.heap.size + 1 + 1 + 1 + 1 + 1, 7, none⟩ (.int .i64 (wt0 ss : Nat))).setCell ⟨w.heap.size + 1 + 1 + 1 + 1 + 1, 8, none⟩ (.int .i64 0)).setCell ⟨w.heap.size + 1 + 1 + 1 + 1 + 1, 9, none⟩ (.int .i64 0) = W at hI ⊢
  have x3 : W.cell? ⟨w.heap.size, 3, none⟩ = some (.slice A n c) := hI.box.cell 3
  obtain ⟨i0, hi0, hz0, hz1, hz2⟩ := info_parts info_str
  go_wp2_with fail
  clear x3
  go_loopg [33] n (fun gf i wr => ∃ k : Nat, n ≤ k + gf ∧ k ≤ n ∧ i = .int .i64 k ∧ MInv room lsn now A n c ss w k wr)
  case atStart => exact ⟨0, by omega, by omega, rfl, hI⟩
  case round =>
    clear hI
    obtain ⟨k, hg, hk, rfl, hI⟩ := hrel
    by_cases hlt : k < n
    · obtain ⟨s, hs⟩ : ∃ s, ss[k]? = some s := ⟨ss[k]'(by rw [HL.out]; exact hlt), List.getElem?_eq_getElem _⟩
      obtain ⟨v, m, hb, hv, hm⟩ := hI.ex
      have hlow := hI.low
      obtain ⟨g1, g2, g3⟩ := lv_get ss k hs
      obtain ⟨ad, rfl, hc⟩ := (HR.out.below hlow).cells (by omega)
      have q1 := hc _ _ g1
      have q2 := hc _ _ g2
      have q3 := hc _ _ g3
      rw [add_next ad (k * 3) (by omega)] at q2 q3
      have HI := hide hI
      have HS := hide hs
      have HV := hide hv
      have HM := hide hm
      have HB := hide hb
      have hszl := hlow.size
      have lG : w.heap.size + 1 + 1 + 1 + 1 + 1 < wr.heap.size := hb.lt
      have y3 : wr.cell? ⟨w.heap.size + 1 + 1 + 1 + 1 + 1, 3, none⟩ = some v := hb.cell 3
      have vB : ∀ q, v.ownBlock = some q → w.heap.size + 1 + 1 + 1 + 1 + 1 + 1 ≤ q := own_base hv
      have v1 : some (w.heap.size + 1 + 1 + 1 + 1 + 1) ≠ v.ownBlock := fun e => by have := vB _ e.symm; omega
      have vL : ∀ q, v.ownBlock = some q → q < wr.heap.size := own_lt hv
      have v2 : some wr.heap.size ≠ v.ownBlock := fun e => by have := vL _ e.symm; omega
      have v3 : some (w.heap.size + 1 + 1) ≠ v.ownBlock := fun e => by have := vB _ e.symm; omega
      have hvA : ∀ o o' : Obj, ((wr.alloc o).alloc o').ownsRow (w.heap.size + 1 + 1 + 1 + 1 + 1 + 1) 9 1 v k (strs (ss.take k)) := fun o o' => own_below hv (bA (bA (Below.refl _ _) o) o')
      clear hc g1 g2 g3 hs hlow hI hb hv hm
      go_wp2_with (first | (at_builtin; refine wpList_append_lies _ rfl _ _ _ rfl (w.heap.size + 1 + 1 + 1 + 1 + 1 + 1) 9 i0 _ 1 16 Tryz.underlying49 hi0 hz0 hz1 hz2 rfl (by omega) v k (strs (ss.take k)) rfl (hvA _ _) ⟨wr.heap.size + 1, 0, none⟩ 1 1 [.string s] rfl rfl (by have := World.news_of_block (cs := #[.string s]) (t := 9) (fr := (0, 0)) (heap_alloc_new (wr.alloc (.cells #[.string s, .int .i64 0, .int .i64 0] 95)) _); simpa using this) (by simp [Value.oneCell']) (by omega) (by simp only [maxLen]; omega) (by omega) (by simp; omega) (wr.heap.size + 1 + 1) (by simp) ?_; intro g' cap w2 hown2 hgrow hat hlt'; have hg2 := hide (((HB.out.alloc _).alloc _).grown hgrow v1); have hx2 := hide (Blk.grown ((Blk.new1 (w := wr) (g := wr.heap.size) rfl 95 #[.string s, .int .i64 0, .int .i64 0]).alloc _) hgrow v2); have hm2 : MapOf w2 (w.heap.size + 1 + 1) m := ((HM.out.alloc _).alloc _).move (hgrow.block _ ((HM.out.alloc _).alloc _).lt v3); have hmA : ∀ u : Value, MapOf (w2.setCell ⟨w.heap.size + 1 + 1 + 1 + 1 + 1, 3, none⟩ u) (w.heap.size + 1 + 1) m := fun u => hm2.set (by simp) u; have e3 : w2.cell? ⟨w.heap.size + 1 + 1 + 1 + 1 + 1, 3, none⟩ = some v := hg2.out.cell 3; have e4 : w2.cell? ⟨w.heap.size + 1 + 1 + 1 + 1 + 1, 4, none⟩ = some (.map (some (w.heap.size + 1 + 1))) := hg2.out.cell 4; have ef3 := hg2.out.frozen 3; have d0 : w2.cell? ⟨wr.heap.size, 0, none⟩ = some (.string s) := hx2.out.cell 0; have d1 : w2.cell? ⟨wr.heap.size, 1, none⟩ = some (.int .i64 0) := hx2.out.cell 1; have d2 : w2.cell? ⟨wr.heap.size, 2, none⟩ = some (.int .i64 0) := hx2.out.cell 2; clear hm2) | (at_mapUpdate; refine wpList_mapSet _ rfl (.tmp 45) (.tmp 47) (.tmp 48) 75 rfl 9 95 Tryz.underlying75 Tryz.underlying9 (w.heap.size + 1 + 1) m rfl (hmA _) s (lv0 s) rfl rfl ?_; intro w3 hm3 hg3))
      go_roundg (gk - 1)
      case measure => omega
      case rel => exact ⟨k + 1, by omega, by omega, by go_num, MInv.step HI.out HS.out HB.out HV.out hgrow hown2 hm3 hg3⟩
    · obtain rfl : k = n := by omega
      obtain ⟨v, m, hb, hv, hm⟩ := hI.ex
      obtain ⟨A1, c1, rfl, hc1⟩ := own_slice hv
      obtain ⟨W, rfl⟩ : ∃ W, W = wr := ⟨_, rfl⟩
      have x4 : W.cell? ⟨w.heap.size, 4, none⟩ = some (.slice none 0 0) := hI.box.cell 4
      have x5 : W.cell? ⟨w.heap.size, 5, none⟩ = some (.slice none 0 0) := hI.box.cell 5
      have HI := hide hI
      have HB := hide hb
      clear hI hb hv hm
      go_wp2_with fail
      go_loopg [53] 0 (fun gf i V => i = .int .i64 0 ∧ W = V)
      case atStart => exact ⟨rfl, rfl⟩
      case round =>
        obtain ⟨rfl, rfl⟩ := hrel
        go_wp2_with fail
        go_loopg [70] 0 (fun gf i V => i = .int .i64 0 ∧ W = V)
        case atStart => exact ⟨rfl, rfl⟩
        case round =>
          obtain ⟨rfl, rfl⟩ := hrel
          have HR2 := hide HI.out.res
          have t0 : W.cell? ⟨w.heap.size + 1 + 1 + 1 + 1 + 1, 0, none⟩ = some (.int .i64 room) := HB.out.cell 0
          have t1 : W.cell? ⟨w.heap.size + 1 + 1 + 1 + 1 + 1, 1, none⟩ = some (.int .i64 lsn) := HB.out.cell 1
          have t2 : W.cell? ⟨w.heap.size + 1 + 1 + 1 + 1 + 1, 2, none⟩ = some (.int .i64 now) := HB.out.cell 2
          have t3 : W.cell? ⟨w.heap.size + 1 + 1 + 1 + 1 + 1, 3, none⟩ = some (.slice A1 k c1) := HB.out.cell 3
          have t4 : W.cell? ⟨w.heap.size + 1 + 1 + 1 + 1 + 1, 4, none⟩ = some (.map (some (w.heap.size + 1 + 1))) := HB.out.cell 4
          have t5 : W.cell? ⟨w.heap.size + 1 + 1 + 1 + 1 + 1, 5, none⟩ = some (.map (some (w.heap.size + 1 + 1 + 1))) := HB.out.cell 5
          have t6 : W.cell? ⟨w.heap.size + 1 + 1 + 1 + 1 + 1, 6, none⟩ = some (.map (some (w.heap.size + 1 + 1 + 1 + 1))) := HB.out.cell 6
          have t7 : W.cell? ⟨w.heap.size + 1 + 1 + 1 + 1 + 1, 7, none⟩ = some (.int .i64 (wt0 ss : Nat)) := HB.out.cell 7
          have t8 : W.cell? ⟨w.heap.size + 1 + 1 + 1 + 1 + 1, 8, none⟩ = some (.int .i64 0) := HB.out.cell 8
          have t9 : W.cell? ⟨w.heap.size + 1 + 1 + 1 + 1 + 1, 9, none⟩ = some (.int .i64 0) := HB.out.cell 9
          have r0 : W.cell? ⟨w.heap.size + 1, 0, none⟩ = some (.int .i64 0) := HR2.out.cell 0
          have f0 := HR2.out.frozen 0
          have r1 : W.cell? ⟨w.heap.size + 1, 1, none⟩ = some (.int .i64 0) := HR2.out.cell 1
          have f1 := HR2.out.frozen 1
          have r2 : W.cell? ⟨w.heap.size + 1, 2, none⟩ = some (.int .i64 0) := HR2.out.cell 2
          have f2 := HR2.out.frozen 2
          have r3 : W.cell? ⟨w.heap.size + 1, 3, none⟩ = some (.slice none 0 0) := HR2.out.cell 3
          have f3 := HR2.out.frozen 3
          have r4 : W.cell? ⟨w.heap.size + 1, 4, none⟩ = some (.map none) := HR2.out.cell 4
          have f4 := HR2.out.frozen 4
          have r5 : W.cell? ⟨w.heap.size + 1, 5, none⟩ = some (.map none) := HR2.out.cell 5
          have f5 := HR2.out.frozen 5
          have r6 : W.cell? ⟨w.heap.size + 1, 6, none⟩ = some (.map none) := HR2.out.cell 6
          have f6 := HR2.out.frozen 6
          have r7 : W.cell? ⟨w.heap.size + 1, 7, none⟩ = some (.int .i64 0) := HR2.out.cell 7
          have f7 := HR2.out.frozen 7
          have r8 : W.cell? ⟨w.heap.size + 1, 8, none⟩ = some (.int .i64 0) := HR2.out.cell 8
          have f8 := HR2.out.frozen 8
          have r9 : W.cell? ⟨w.heap.size + 1, 9, none⟩ = some (.int .i64 0) := HR2.out.cell 9
          have f9 := HR2.out.frozen 9
          go_wp2_with fail
          refine bodyPost_ret (v := .agg #[.int .i64 room, .int .i64 lsn, .int .i64 now, .slice A1 k c1, .map (some (w.heap.size + 1 + 1)), .map (some (w.heap.size + 1 + 1 + 1)), .map (some (w.heap.size + 1 + 1 + 1 + 1)), .int .i64 (wt0 ss : Nat), .int .i64 0, .int .i64 0]) (by simp [results, Tryz.results38, go_sem, *]) rfl ⟨⟨_, _, _, _, _, rfl⟩, ?_⟩
          have hb := HI.out.low
          repeat (first | with_reducible exact hb | with_reducible refine bS ?_ (by omega) _)
end Go.Proofs.YtjdojkgfajndbaaGreatDoor.B
