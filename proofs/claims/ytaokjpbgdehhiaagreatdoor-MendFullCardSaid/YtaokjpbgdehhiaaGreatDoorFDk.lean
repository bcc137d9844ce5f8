/- A disk as it lies in memory: Count, Flush, New. -/
import Derived.Test.YtaokjpbgdehhiaaGreatDoorKeep
import Derived.Test.YtaokjpbgdehhiaaGreatDoorDisk
import Derived.Test.YtaokjpbgdehhiaaGreatDoorSector
import Derived.Test.YtaokjpbgdehhiaaGreatDoorPlanZ
import Derived.Deep.QuietTactic
import Derived.BigQuiet
import Derived.Deep.AppendLies
import Derived.Deep.RegionLaw
import Derived.Laws.Rows
import Derived.Laws.Tables
import Derived.Laws.CopyOwn
import Derived.Great.Walk
import Derived.Great.BuildSlice
namespace Go.Proofs.YtaokjpbgdehhiaaGreatDoor.B
open Go.RowKit

/-- A disk at block g: what is seen (block g2), its operations (v, so many). -/
structure Dk (w : World) (g g2 : Nat) (v : Value) (N cnt : Nat) (I : List Nat) : Prop where
  ex : ∃ A1 c1 c2, Blk w g 53 #[.slice (some ⟨A1, 0, none⟩) (N * 128) c1, .slice (some ⟨g2, 0, none⟩) (N * 128) c2, v] ∧ w.ownsRow 0 5 1 (.slice (some ⟨g2, 0, none⟩) (N * 128) c2) (N * 128) (bv I)
  ops : ∃ xs, w.ownsRow 0 57 129 v cnt xs
  ne : g ≠ g2
  ne1 : v.ownBlock ≠ some g
  ne2 : v.ownBlock ≠ some g2
  lo : 1 ≤ N
  hi : N ≤ 4096
  most : cnt ≤ 65536
/-- The disk's blocks. -/
def dkD (g g2 : Nat) (v : Value) : List Nat := g :: g2 :: v.ownBlock.toList
theorem Dk.below {w w' : World} {g g2 N cnt : Nat} {v : Value} {I : List Nat} (h : Dk w g g2 v N cnt I) (hb : Below w.heap.size w w') : Dk w' g g2 v N cnt I := by
  obtain ⟨⟨A1, c1, c2, h1, h2⟩, ⟨xs, h3⟩, h4, h5, h6, h7, h8, h9⟩ := h
  exact ⟨⟨A1, c1, c2, h1.below hb, own_below h2 hb⟩, ⟨xs, own_below h3 hb⟩, h4, h5, h6, h7, h8, h9⟩
theorem dkCount_any (g g2 N cnt : Nat) (v : Value) (I : List Nat) (w : World) (h : Dk w g g2 v N cnt I) :
    Calls Tryz.prog 8 #[.pointer (some ⟨g, 0, none⟩)] w fun e w' => e = .returned (.int .i64 (cnt : Int)) ∧ w' = w := by
  obtain ⟨⟨A1, c1, c2, hB, _⟩, ⟨xs, hx⟩, _⟩ := h
  obtain ⟨A3, c3, rfl, _⟩ := own_slice hx
  have d2 : w.cell? ⟨g, 2, none⟩ = some (.slice A3 cnt c3) := hB.cell 2
  clear hB hx
  go_enter Tryz.func8, Tryz.ntmps8
  go_wp2_with fail
  go_ret
  exact ⟨rfl, rfl⟩
theorem info_op : ∃ i z, Tryz.prog.info? 57 = some i ∧ i.zero = some z ∧ i.size = 129 ∧ i.bytes = 136 ∧ z.cells.size = 129 := by
  have h : (match Tryz.prog.info? 57 with | some i => (match i.zero with | some z => z.cells.size == 129 | none => false) && i.size == 129 && i.bytes == 136 | none => false) = true := by kernel_rfl
  split at h
  · rename_i i hi
    simp only [Bool.and_eq_true] at h
    obtain ⟨⟨h1, h2⟩, h3⟩ := h
    split at h1
    · rename_i z hz
      exact ⟨i, z, hi, hz, by simpa using h2, by simpa using h3, by simpa using h1⟩
    · cases h1
  · cases h
theorem info_op_sz : (Tryz.prog.info? 57).map (·.size) = some 129 := by
  obtain ⟨i, z, h1, h2, h3, _⟩ := info_op
  rw [h1]; simp [h3]
theorem opSlice (w : World) (fs : Array Value) (hFs : fs.size = 129) : (Instr.buildSlice 51 1 #[(0, .agg fs)]).run Tryz.prog w = .ok (.slice (some ⟨w.heap.size, 0, none⟩) 1 1) (w.alloc (.cells fs 57)) := by
  obtain ⟨i, z, h1, h2, h3, _, h5⟩ := info_op
  refine run_buildSlice w 51 57 1 _ fs i z Tryz.underlying51 h1 h2 (by omega) (by omega) ?_
  rw [h3]
  have := Great.fill_whole (s := 129) (by omega) [.agg fs] ((Array.range (1 * 129)).map (z.cells[· % z.cells.size]!)) (by simpa [Value.cells] using hFs) (by simp)
  simpa [Value.cells] using this
/-- The program's empty operation, as it lies. -/
def FlushAt (w : World) : Prop := ∃ (cs : Array Value) (t : TypeId) (fr : Nat × Nat), w.heap[0]? = some (.cells cs t fr) ∧ cs.size = 129 ∧ ∀ u ∈ cs.toList, u.oneCell' = true
theorem FlushAt.lt {w : World} (h : FlushAt w) : 0 < w.heap.size := by
  obtain ⟨cs, t, fr, h1, _⟩ := h
  exact (Array.getElem?_eq_some_iff.1 h1).1
theorem FlushAt.below {w w' : World} (h : FlushAt w) (hb : Below w.heap.size w w') : FlushAt w' := by
  have hl := h.lt
  obtain ⟨cs, t, fr, h1, h2, h3⟩ := h
  exact ⟨cs, t, fr, by rw [hb.block _ hl]; exact h1, h2, h3⟩
theorem FlushAt.keep {D : List Nat} {w w' : World} (h : FlushAt w) (k : Keep D w w') (hD : 0 ∉ D) : FlushAt w' := by
  have hl := h.lt
  obtain ⟨cs, t, fr, h1, h2, h3⟩ := h
  exact ⟨cs, t, fr, by rw [k.block _ hl hD]; exact h1, h2, h3⟩
theorem dkFlush_full (g g2 N : Nat) (v : Value) (I : List Nat) (w : World) (h : Dk w g g2 v N 65536 I) :
    Calls Tryz.prog 9 #[.pointer (some ⟨g, 0, none⟩)] w fun e w' => e = .returned (.int .i64 5) ∧ w' = w := by
  obtain ⟨⟨A1, c1, c2, hB, _⟩, ⟨xs, hx⟩, _⟩ := h
  obtain ⟨A3, c3, rfl, _⟩ := own_slice hx
  have d2 : w.cell? ⟨g, 2, none⟩ = some (.slice A3 65536 c3) := hB.cell 2
  clear hB hx
  go_enter Tryz.func9, Tryz.ntmps9
  go_wp2_with fail
  go_ret
  exact ⟨rfl, rfl⟩
theorem Dk.push {w w1 wx : World} {g g2 N cnt g' cap : Nat} {v : Value} {I : List Nat} {ys : List Value} (h : Dk w g g2 v N cnt I) (hb : Below w.heap.size w w1) (hc : cnt < 65536)
    (hown : wx.ownsRow 0 57 129 (.slice (some ⟨g', 0, none⟩) (cnt + 1) cap) (cnt + 1) ys) (hg : w1.grownBy wx v.ownBlock) (hat : v.ownBlock = some g' ∨ g' = w1.heap.size) :
    Dk (wx.setCell ⟨g, 2, none⟩ (.slice (some ⟨g', 0, none⟩) (cnt + 1) cap)) g g2 (.slice (some ⟨g', 0, none⟩) (cnt + 1) cap) N (cnt + 1) I ∧ Keep (dkD g g2 v) w (wx.setCell ⟨g, 2, none⟩ (.slice (some ⟨g', 0, none⟩) (cnt + 1) cap)) := by
  obtain ⟨⟨A1, c1, c2, hB, hO⟩, ⟨xs, hx⟩, ne, ne1, ne2, hlo, hhi, hmo⟩ := h
  have lg := hB.lt
  have lg2 : g2 < w.heap.size := own_lt hO g2 rfl
  have hsz := hb.size
  have n1 : g' ≠ g := by
    rintro rfl
    rcases hat with h | h
    · exact ne1 h
    · omega
  have n2 : g' ≠ g2 := by
    rintro rfl
    rcases hat with h | h
    · exact ne2 h
    · omega
  have m1 : (wx.setCell ⟨g, 2, none⟩ (.slice (some ⟨g', 0, none⟩) (cnt + 1) cap)).ownsRow 0 57 129 (.slice (some ⟨g', 0, none⟩) (cnt + 1) cap) (cnt + 1) ys := by
    refine own_move hown (fun q hq => Below.heap_setCell _ _ _ _ ?_)
    obtain rfl : g' = q := by simpa [Value.ownBlock] using hq
    simpa using n1
  refine ⟨⟨⟨A1, c1, c2, ?_, ?_⟩, ⟨ys, m1⟩, ne, by simpa [Value.ownBlock] using n1, by simpa [Value.ownBlock] using n2, hlo, hhi, by omega⟩, ?_⟩
  · have := ((hB.below hb).grown hg (fun e => ne1 e.symm)).set_ 2 (.slice (some ⟨g', 0, none⟩) (cnt + 1) cap)
    simpa using this
  · have h1 := own_below hO hb
    have h2 : wx.ownsRow 0 5 1 (.slice (some ⟨g2, 0, none⟩) (N * 128) c2) (N * 128) (bv I) := own_move h1 (fun q hq => hg.block q (own_lt h1 q hq) (fun e => by
      obtain rfl : g2 = q := by simpa [Value.ownBlock] using hq
      exact ne2 e.symm))
    refine own_move h2 (fun q hq => Below.heap_setCell _ _ _ _ ?_)
    obtain rfl : g2 = q := by simpa [Value.ownBlock] using hq
    simpa using ne.symm
  · refine ((Keep.below hb).trans (D' := dkD g g2 v) (Keep.grown hg (fun b hb => by simp [dkD, hb])) (fun _ _ h => h)).trans (D' := dkD g g2 v) (Keep.set (by simp [dkD]) _) (fun _ _ h => h)
set_option maxRecDepth 100000 in
set_option maxHeartbeats 3200000 in
theorem dkFlush_ok (g g2 N cnt : Nat) (v : Value) (I : List Nat) (w : World) (h : Dk w g g2 v N cnt I) (hc : cnt < 65536) (hF : FlushAt w) :
    Calls Tryz.prog 9 #[.pointer (some ⟨g, 0, none⟩)] w fun e w' => e = .returned (.int .i64 0) ∧ ∃ v', Dk w' g g2 v' N (cnt + 1) I ∧ Keep (dkD g g2 v) w w' ∧ (v'.ownBlock = v.ownBlock ∨ v'.ownBlock = some (w.heap.size + 1)) := by
  have hN := h.hi
  have hlo := h.lo
  have HN := hide h
  obtain ⟨⟨A1, c1, c2, hB, hO⟩, ⟨xs, hx⟩, ne, ne1, ne2, _⟩ := h
  obtain ⟨fs, ft, ff, hFB, hFs, hF1⟩ := hF
  obtain ⟨A3, c3, rfl, hc3⟩ := own_slice hx
  obtain ⟨i0, z0, hi0, hz0, hz1, hz2, hz3⟩ := info_op
  have d2 : w.cell? ⟨g, 2, none⟩ = some (.slice A3 cnt c3) := hB.cell 2
  have f2 : w.frozen? ⟨g, 2, none⟩ = false := hB.frozen 2
  have lg : g < w.heap.size := hB.lt
  have hbs := opSlice w.drew fs hFs
  have hvA : ∀ o : Obj, (w.drew.alloc o).ownsRow 0 57 129 (.slice A3 cnt c3) cnt xs := fun o => own_below hx (bA (bD (Below.refl _ _)) o)
  have v1 : some g ≠ (Value.slice A3 cnt c3).ownBlock := fun e => ne1 e.symm
  have hcn : ¬ ((65536 : Int) ≤ (cnt : Int)) := by omega
  have HB := hide hB
  have HO := hide hO
  have HX := hide hx
  have HNe := hide (And.intro ne (And.intro ne1 ne2))
  have HF1 := hide hF1
  have HFB := hide hFB
  clear hB hO hx ne ne1 ne2 hFB hF1
  go_enter Tryz.func9, Tryz.ntmps9
  go_wp2_with fail
  refine planZ_region (fun w' => w'.cell? ⟨g, 2, none⟩ = some (.slice A3 cnt c3)) [5, 6, 7, 10] [4] [0, 1, 2, 3, 4, 5, 6, 7, 8, 9, 10] 7 (by kernel_rfl) (by kernel_rfl) (fun _ d _ _ _ h => by cases d <;> exact h) d2 ?_
  repeat
    first
    | (refine PlanZ.any (v := ?_) (a' := ?_) rfl rfl rfl rfl (by rfl) ?_ ?_ ?_
       rotate_left
       · intro w'
         go_simp
         with_reducible rfl
       rotate_left
       · simp only [Act.put, List.setIfInBounds_toArray, List.set_cons_zero, List.set_cons_succ]
         rfl)
    | (refine PlanZ.read (v := ?_) (a' := ?_) rfl rfl rfl rfl (by rfl) ?_ ?_ ?_
       rotate_left
       · intro w' h1
         go_simp
         with_reducible rfl
       rotate_left
       · simp only [Act.put, List.setIfInBounds_toArray, List.set_cons_zero, List.set_cons_succ]
         rfl)
  refine PlanZ.eff rfl rfl (by rfl) (fun K hK => ?_)
  refine wp_load_row 57 _ rfl 0 rfl ft fs ff _ HFB.out Tryz.underlying57 rfl (by rw [info_op_sz, hFs]) ?_
  refine hK.out _ _ (fun _ => d2) ?_
  clear hK
  simp only [Act.put, List.setIfInBounds_toArray, List.set_cons_zero, List.set_cons_succ]
  refine PlanZ.eff rfl rfl (by rfl) (fun K hK => ?_)
  have d3 : (w.drew.alloc (.cells fs 57)).cell? ⟨g, 2, none⟩ = some (.slice A3 cnt c3) := bget (bA (bD (Below.refl _ _)) _) d2
  unfold Oper.wp execOp
  simp only [Act.eval, List.map_toArray, List.map_cons, List.map_nil, Array.getD_eq_getD_getElem?, List.getElem?_toArray, List.getElem?_cons_zero, List.getElem?_cons_succ, Option.getD_some, Sem.run_bind, hbs, Result.andThen_ok, Sem.run_pure, Oper.upon]
  refine hK.out _ _ (fun _ => d3) ?_
  clear hK
  simp only [Act.put, List.setIfInBounds_toArray, List.set_cons_zero, List.set_cons_succ]
  refine PlanZ.eff rfl rfl (by rfl) (fun K hK => ?_)
  refine wp_append_lies _ _ _ _ rfl 0 57 i0 z0 129 136 Tryz.underlying51 hi0 hz0 hz1 hz2 hz3 (by omega) (.slice A3 cnt c3) cnt xs rfl (hvA _) ⟨w.heap.size, 0, none⟩ 1 1 fs.toList rfl (by simp [hFs]) (World.news_of_block (cs := fs) (t := 57) (fr := (0, 0)) (heap_alloc_new w.drew _)) HF1.out (by omega) (by simp only [maxLen]; omega) (by omega) (by omega) (w.heap.size + 1) (by simp) ?_
  intro g' cap wx hown1 hgrow hat hlt'
  have hb1 := hide ((Blk.drew_ (HB.out)).alloc (.cells fs 57) |>.grown hgrow v1)
  have cT1 : wx.cell? ⟨g, 2, none⟩ = some (.slice A3 cnt c3) := hb1.out.cell 2
  have fT1 : wx.frozen? ⟨g, 2, none⟩ = false := hb1.out.frozen 2
  have HOwn := hide hown1
  have HGr := hide hgrow
  have HAt := hide hat
  clear hown1 hgrow hat
  refine hK.out _ _ (fun h => absurd h (by decide)) ?_
  clear hK
  simp only [Act.put, List.setIfInBounds_toArray, List.set_cons_zero, List.set_cons_succ]
  repeat
    (refine PlanZ.any (v := ?_) (a' := ?_) rfl rfl rfl rfl (by rfl) ?_ ?_ ?_
     rotate_left
     · intro w'
       go_simp
       with_reducible rfl
     rotate_left
     · simp only [Act.put, List.setIfInBounds_toArray, List.set_cons_zero, List.set_cons_succ]
       rfl)
  refine PlanZ.eff rfl rfl (by rfl) (fun K hK => ?_)
  go_simp
  refine hK.out _ _ (fun h => absurd h (by decide)) ?_
  clear hK
  change (Exit.then _ _) _ _ _
  go_wp2_with fail
  have hP := HN.out.push (bA (bD (Below.refl w.heap.size w)) (.cells fs 57)) hc HOwn.out HGr.out (by simpa using HAt.out)
  go_ret
  exact ⟨rfl, _, hP.1, hP.2, HAt.out.elim (fun h => .inl (by simpa [Value.ownBlock] using h.symm)) (fun h => .inr (by simp [Value.ownBlock, h]))⟩
theorem own_form3 {w : World} {base n size : Nat} {e : TypeId} {v : Value} {xs : List Value} (h : w.ownsRow base e size v n xs) (hn : 1 ≤ n) : ∃ g c, v = .slice (some ⟨g, 0, none⟩) n c := by
  rcases h.2 with ⟨_, h0⟩ | ⟨g, cap, cur, rfl, _⟩
  · omega
  · exact ⟨g, cap, rfl⟩

set_option maxRecDepth 100000 in
set_option maxHeartbeats 1000000 in
theorem dkNew_any (A : Option Addr) (N n c : Nat) (I : List Nat) (w : World) (h1 : 1 ≤ N) (h2 : N ≤ 4096) (hn : n = N * 128) (hI : I.length = n) (hr : Rd w 1 A n (bv I)) :
    Calls Tryz.prog 6 #[.slice A n c, .int .i64 (N : Int)] w fun e w' => (∃ g g2, e = .returned (.tuple #[.pointer (some ⟨g, 0, none⟩), .int .i64 0]) ∧ Dk w' g g2 (.slice none 0 0) N 0 I ∧ w.heap.size ≤ g ∧ w.heap.size ≤ g2) ∧ Below w.heap.size w w' := by
  subst hn
  obtain ⟨Z, hZ, hmk⟩ := make_bytes (N * 128) (by omega)
  rw [show ((N * 128 : Nat) : Int) = (N : Int) * 128 by omega] at hmk
  obtain ⟨ad, rfl, hcA⟩ := hr.cells (by omega)
  have hzl : Z.size = N * 128 := by
    have := congrArg List.length hZ
    simpa [zeros] using this
  have hbI : (bv I).length = N * 128 := by rw [bv_length, hI]
  have E4 := hide (show (bv I).length = Nat.min (N * 128) (N * 128) by rw [hbI]; exact (Nat.min_self _).symm)
  have E6 := hide (show 0 + (bv I).length ≤ Z.size by rw [hbI, hzl]; omega)
  have hN1 : decide ((N : Int) < 1) = false := by simp only [decide_eq_false_iff_not]; omega
  have hN2 : decide (4096 < (N : Int)) = false := by simp only [decide_eq_false_iff_not]; omega
  have hcd : decide (((N * 128 : Nat) : Int) ≤ (N : Int) * 128) = true := by simp only [decide_eq_true_eq]; omega
  have hce : decide ((N : Int) * 128 < ((N * 128 : Nat) : Int)) = false := by simp only [decide_eq_false_iff_not]; omega
  have hlt0 : ∀ o o' : Obj, ∀ j u, (bv I)[j]? = some u → ((w.alloc o).alloc o').cell? (ad.add j) = some u := fun o o' j u hu => bget (bA (bA (Below.refl _ _) o) o') (hcA j u hu)
  have HLT := hide hlt0
  have HZ := hide hzl
  have HBI := hide hbI
  clear hZ hzl hbI hcA hr hlt0
  go_enter Tryz.func6, Tryz.ntmps6
  go_wp2_with (refine wpList_copy_own rfl (.tmp 26) (.tmp 27) 26 26 rfl 5 Tryz.underlying26 size_u8 w.heap.size 0 (N * 128) (N * 128) ad (N * 128) c ?e1 ?e2 Z 5 ?e3 (bv I) ?e4 ?e5 ?e6 (bv_one _) ?_
               (case e1 => rfl)
               (case e2 => rfl)
               (case e3 => exact (Blk.new w 5 Z).alloc _)
               (case e4 => exact E4.out)
               (case e5 => exact HLT.out _ _)
               (case e6 => exact E6.out)
               have hb1 := hide (show Blk (((w.alloc (.cells Z 5)).alloc (.cells #[.slice (some ⟨w.heap.size, 0, none⟩) (N * 128) (N * 128), .slice none 0 0, .slice none 0 0] 53)).setRow w.heap.size (Z.toList.take 0 ++ (bv I ++ Z.toList.drop (0 + (bv I).length))).toArray) w.heap.size 5 (Z.toList.take 0 ++ (bv I ++ Z.toList.drop (0 + (bv I).length))).toArray from setRow_heap _ _ _ _ _ _ ((Blk.new w 5 Z).alloc _))
               have hb2 := hide (show Blk (((w.alloc (.cells Z 5)).alloc (.cells #[.slice (some ⟨w.heap.size, 0, none⟩) (N * 128) (N * 128), .slice none 0 0, .slice none 0 0] 53)).setRow w.heap.size (Z.toList.take 0 ++ (bv I ++ Z.toList.drop (0 + (bv I).length))).toArray) (w.heap.size + 1) 53 #[.slice (some ⟨w.heap.size, 0, none⟩) (N * 128) (N * 128), .slice none 0 0, .slice none 0 0] from (Blk.new1 (g := w.heap.size + 1) (by simp) _ _).move (setRow_other _ _ _ _ (by omega)))
               have hbl := hide (below_setRow (bA (bA (Below.refl w.heap.size w) (.cells Z 5)) (.cells #[.slice (some ⟨w.heap.size, 0, none⟩) (N * 128) (N * 128), .slice none 0 0, .slice none 0 0] 53)) (Nat.le_refl _) (Z.toList.take 0 ++ (bv I ++ Z.toList.drop (0 + (bv I).length))).toArray)
               generalize ((w.alloc (.cells Z 5)).alloc (.cells #[.slice (some ⟨w.heap.size, 0, none⟩) (N * 128) (N * 128), .slice none 0 0, .slice none 0 0] 53)).setRow w.heap.size (Z.toList.take 0 ++ (bv I ++ Z.toList.drop (0 + (bv I).length))).toArray = w2 at *
               have d0 : w2.cell? ⟨w.heap.size + 1, 0, none⟩ = some (.slice (some ⟨w.heap.size, 0, none⟩) (N * 128) (N * 128)) := hb2.out.cell 0)
  have hZ0 : Z.toList.drop (0 + (bv I).length) = [] := List.drop_of_length_le (by simp only [Array.length_toList, HZ.out, HBI.out]; omega)
  refine (cloneB_any _ (N * 128) _ (bv I) w2 (bv_one _) (by omega) (Rd.of_blk hb1.out (by rw [hZ0]; simp) HBI.out)).mono ?_
  rintro e w3 ⟨⟨v, rfl, hown⟩, hb⟩
  obtain ⟨g2, c2, rfl⟩ := own_form3 hown (by omega)
  have hsz := hb2.out.lt
  have lg2 : w2.heap.size ≤ g2 := own_base hown g2 rfl
  have HB := hide (hb2.out.below hb)
  have HL := hide (bT hbl.out hb)
  have HO := hide hown
  have d1 : w3.cell? ⟨w.heap.size + 1, 1, none⟩ = some (.slice none 0 0) := HB.out.cell 1
  have e1 := HB.out.frozen 1
  clear hown hb d0
  go_wp2_with fail
  go_ret2
  refine ⟨⟨_, g2, rfl, ⟨⟨_, _, c2, by simpa using HB.out.set_ 1 (.slice (some ⟨g2, 0, none⟩) (N * 128) c2), own_low (own_move HO.out (fun q hq => Below.heap_setCell _ _ _ _ ?_)) (Nat.zero_le _)⟩, ⟨[], own_nil _ _ _ _⟩, by omega, by simp [Value.ownBlock], by simp [Value.ownBlock], h1, h2, by omega⟩, by omega, by omega⟩, bS HL.out (by omega) _⟩
  obtain rfl : g2 = q := by simpa [Value.ownBlock] using hq
  simp only
  omega
end Go.Proofs.YtaokjpbgdehhiaaGreatDoor.B
