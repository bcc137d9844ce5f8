/- mend.sector and mend.put: a sector's bytes. -/
import Derived.Test.YtaokjpbgdehhiaaGreatDoorWord
import Derived.Test.YtaokjpbgdehhiaaGreatDoorMake
import Derived.Deep.RegionLaw
namespace Go.Proofs.YtaokjpbgdehhiaaGreatDoor.B
open Go.RowKit

/-- Bytes filled up to a sector. -/
def fill (l : List Nat) : List Nat := l ++ List.replicate (128 - l.length) 0
@[simp] theorem fill_length (l : List Nat) (h : l.length ≤ 128) : (fill l).length = 128 := by simp [fill]; omega
theorem zeros_bv (n : Nat) : zeros n = bv (List.replicate n 0) := by simp [zeros, bv]
theorem splice_fill (l : List Nat) (_ : l.length ≤ 128) : splice (bv (List.replicate 128 0)) 0 (bv l) = bv (fill l) := by
  have e : (bv (List.replicate 128 0)).drop (0 + (bv l).length) = bv (List.replicate (128 - l.length) 0) := by
    rw [bv_length, Nat.zero_add]
    generalize 128 = m
    simp [bv, List.drop_replicate]
  unfold splice
  rw [e, fill, bv_append]
  rfl
theorem size_u8 : (Tryz.prog.info? 5).map (·.size) = some 1 := by kernel_rfl

set_option maxRecDepth 100000 in
set_option maxHeartbeats 1000000 in
theorem sector_any (A : Option Addr) (n c : Nat) (l : List Nat) (w : World) (hr : Rd w 1 A n (bv l)) (hl : l.length = n) (hn : n ≤ 128) :
    Calls Tryz.prog 25 #[.slice A n c] w fun e w' => (∃ g, e = .returned (.slice (some ⟨g, 0, none⟩) 128 128) ∧ Blk w' g 5 (bv (fill l)).toArray ∧ w.heap.size ≤ g) ∧ Below w.heap.size w w' := by
  obtain ⟨Z, hZ, hmk⟩ := make_bytes 128 (by omega)
  have hmk : ∀ w : World, (Instr.makeSlice 26 (.int .i64 128) (.int .i64 128)).run Tryz.prog w = .ok (.slice (some ⟨w.heap.size, 0, none⟩) 128 128) (w.alloc (.cells Z 5)) := hmk
  have eZ : Z = (bv (List.replicate 128 0)).toArray := by rw [← zeros_bv, ← hZ]
  have hg : (w.alloc (.cells Z 5)).heap[w.heap.size]? = some (.cells (bv (List.replicate 128 0)).toArray 5 (0, 0)) := by rw [← eZ]; exact heap_alloc_new w _
  have hr1 := hide (hr.below (bA (Below.refl w.heap.size w) (.cells Z 5)))
  have hmin : (bv l).length = Nat.min n 128 := by rw [bv_length, hl]; exact (Nat.min_eq_left hn).symm
  have hfit : 0 + (bv l).length ≤ (bv (List.replicate 128 0)).length := by simp; omega
  have hpos : 0 < (bv l).length → (some (⟨w.heap.size, 0, none⟩ : Addr) = some ⟨w.heap.size, 0, none⟩ ∧ ∃ ad, A = some ad ∧ ∀ j v, (bv l)[j]? = some v → (w.alloc (.cells Z 5)).cell? (ad.add j) = some v) := by
    intro h
    obtain ⟨ad, e, hc⟩ := hr1.out.cells (by simp at h; omega)
    exact ⟨rfl, ad, e, hc⟩
  have HG := hide hg
  have HM := hide hmin
  have HF := hide hfit
  have HP := hide hpos
  have HS := hide (splice_fill l (by omega))
  clear hZ eZ hg hmin hfit hpos hr
  go_enter Tryz.func25, Tryz.ntmps25
  go_wp2_with (refine wpList_copy_splice rfl (.tmp 5) (.tmp 6) 26 26 rfl 5 Tryz.underlying26 size_u8 (some ⟨w.heap.size, 0, none⟩) A 128 128 n c rfl rfl w.heap.size 0 (bv (List.replicate 128 0)) 5 HG.out (bv l) HM.out HP.out HF.out (bv_one _) w.heap.size w (bA (Below.refl _ _) _) (Nat.le_refl _) ?_; intro w1 hh1 hb1)
  go_ret
  refine ⟨⟨_, rfl, ?_, Nat.le_refl _⟩, hb1⟩
  have := hh1.out
  rw [HS.out] at this
  exact this

/-- Bytes laid over others, from a place on. -/
def lay (L : List Nat) (at_ : Nat) (x : List Nat) : List Nat := splice L at_ x
theorem lay_length (L : List Nat) (at_ : Nat) (x : List Nat) (h : at_ + x.length ≤ L.length) : (lay L at_ x).length = L.length := length_splice L at_ x h
theorem splice_bv (L : List Nat) (at_ : Nat) (x : List Nat) : splice (bv L) at_ (bv x) = bv (lay L at_ x) := by
  simp [splice, lay, bv, List.map_take, List.map_drop]

set_option maxRecDepth 100000 in
set_option maxHeartbeats 1000000 in
theorem put_any (g at_ x : Nat) (L : List Nat) (w : World) (h : Blk w g 5 (bv L).toArray) (hL : L.length = 128) (ha : at_ ≤ 120) (hx : x < 18446744073709551616) :
    Calls Tryz.prog 26 #[.slice (some ⟨g, 0, none⟩) 128 128, .int .i64 (at_ : Int), .int .u64 (x : Int)] w fun e w' => e = .returned (.tuple #[]) ∧ Blk w' g 5 (bv (lay L at_ (le 8 x))).toArray ∧ Below g w w' := by
  have H := hide h
  have HL := hide hL
  have a1 : (at_ : Int) ≤ 128 := by omega
  have a2 : ¬ (128 = at_) := by omega
  clear h hL
  go_enter Tryz.func26, Tryz.ntmps26
  go_wp2_with fail
  go_region_law
    (first
      | (refine step_copy_splice (by rfl) (.tmp 8) (.tmp 10) 26 26 (by rfl) 5 Tryz.underlying26 size_u8 (some ⟨g, at_, none⟩) (some ⟨g2, 0, none⟩) (128 - at_) (128 - at_) 8 c2 (by rfl) (by rfl) g at_ (bv L) 5 HB.out (bv (le 8 x)) HM.out HP.out HF.out (bv_one _) g w HW.out (Nat.le_refl _) ?_; intro wx hh1 hb1)
      | (go_simp; go_at_call 68; refine (putWord_nil x _ hx).mono ?_; rintro e w2 ⟨⟨g2, c2, rfl, hown⟩, hb2⟩
         have HB := hide (H.out.below (bT (bD (Below.refl w.heap.size w)) hb2))
         have HW := hide ((bT (bD (Below.refl w.heap.size w)) hb2).mono (Nat.le_of_lt H.out.lt))
         have HM := hide (show (bv (le 8 x)).length = Nat.min 8 (128 - at_) by rw [bv_length, le_length]; exact (Nat.min_eq_left (by omega)).symm)
         have HF := hide (show at_ + (bv (le 8 x)).length ≤ (bv L).length by have := HL.out; simp; omega)
         have HP := hide (show 0 < (bv (le 8 x)).length → ((some (⟨g, at_, none⟩ : Addr)) = some ⟨g, at_, none⟩ ∧ ∃ ad, (some (⟨g2, 0, none⟩ : Addr)) = some ad ∧ ∀ j v, (bv (le 8 x))[j]? = some v → w2.cell? (ad.add j) = some v) from fun _ => ⟨rfl, _, rfl, hown.cells (g := g2) rfl⟩)))
  all_goals
    go_end0
    refine ⟨rfl, ?_, hb1⟩
    have := hh1.out
    rw [splice_bv] at this
    exact this
end Go.Proofs.YtaokjpbgdehhiaaGreatDoor.B
