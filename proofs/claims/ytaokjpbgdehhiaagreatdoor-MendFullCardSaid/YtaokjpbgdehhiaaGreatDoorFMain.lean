/- MendFull: the walk, put together. -/
import Derived.Test.YtaokjpbgdehhiaaGreatDoorFWalk
import Derived.Test.YtaokjpbgdehhiaaGreatDoorFRun
namespace Go.Proofs.YtaokjpbgdehhiaaGreatDoor.K
open Go Go.RowKit Go.Proofs.YtaokjpbgdehhiaaGreatDoor.B

/-- At the loop's head. -/
structure LF (w2 w : World) (g g2 cnt : Nat) (v : Value) : Prop where
  dk : Dk w g g2 v 16 cnt Ev.imgN
  fl : FlushAt w
  bel : Below w2.heap.size w2 w
  own : ∀ q, v.ownBlock = some q → w2.heap.size ≤ q
theorem LF.next {w2 w w6 : World} {g g2 cnt : Nat} {v v' : Value} (h : LF w2 w g g2 cnt v) (hF : FlushAt w2) (hD : Dk w6 g g2 v' 16 (cnt + 1) Ev.imgN) (hK : Keep (dkD g g2 v) w w6) (ho : v'.ownBlock = v.ownBlock ∨ v'.ownBlock = some (w.heap.size + 1))
    (l1 : w2.heap.size ≤ g) (l2 : w2.heap.size ≤ g2) : LF w2 w6 g g2 (cnt + 1) v' := by
  have hlow : ∀ b ∈ dkD g g2 v, w2.heap.size ≤ b := fun b hb => by
    simp only [dkD, List.mem_cons] at hb
    rcases hb with rfl | rfl | hb
    · exact l1
    · exact l2
    · exact h.own b (by simpa using hb)
  have hb := hK.low h.bel.size hlow
  refine ⟨hD, h.fl.keep hK (fun hm => ?_), h.bel.trans hb, fun q hq => ?_⟩
  · have := hlow _ hm
    have := hF.lt
    omega
  · rcases ho with ho | ho
    · exact h.own q (by rw [← ho]; exact hq)
    · rw [ho] at hq
      cases hq
      have := h.bel.size
      omega
theorem LF.at_ {w2 w : World} {g g2 cnt e0 e1 c0 : Nat} {v : Value} (h : LF w2 w g g2 cnt v) (hcnt : 1 ≤ cnt) (hG : Globs w2 e0 e1) (hC : CodesAt w2 c0) (h2 : 2 ≤ c0) (hc : c0 < w2.heap.size) (l1 : w2.heap.size ≤ g) (l2 : w2.heap.size ≤ g2) :
    ∃ a1 c1 c2 g3 c3, At w2 w e0 e1 c0 g a1 c1 g2 c2 g3 c3 cnt := by
  obtain ⟨⟨a1, c1, c2, hB, hS⟩, ⟨xs, hO⟩, ne, ne1, ne2, _⟩ := h.dk
  obtain ⟨g3, c3, rfl⟩ := own_form3 hO hcnt
  have hg := hG.below h.bel
  exact ⟨a1, c1, c2, g3, c3, { bel := h.bel, gl := hg, lc := h2, cW := hc, W2 := by omega, dk := hB, seen := hS, ops := ⟨xs, hO⟩, n1 := ne, n2 := fun e => ne1 (by rw [← e]; rfl), n3 := fun e => ne2 (by rw [← e]; rfl), l1 := l1, l2 := l2, l3 := h.own g3 rfl
                               cod := by
                                 obtain ⟨a, b, k1, k2⟩ := hC
                                 exact ⟨a, b, by rw [h.bel.block _ hc]; exact k1, k2⟩ }⟩
set_option maxRecDepth 100000 in
set_option maxHeartbeats 3200000 in
theorem full_walk (W : World) (hL : laidMetH Tryz.prog Rows.mendFullRow.laid W) (left : Int) :
    Calls Tryz.prog 3 #[.int .i64 left] W fun e W' => e = .returned (.bool true) ∧ Below W.heap.size W W' := by
  obtain ⟨⟨c0', e0, f0, h0, g0⟩, c1, e1, f1, h1, g1⟩ := laid_cells hL
  have hG : Globs W e0 e1 := ⟨⟨_, _, h0, g0⟩, _, _, h1, g1⟩
  have hW2 : 2 ≤ W.heap.size := by have := (Array.getElem?_eq_some_iff.1 h1).1; omega
  have HG := hide hG
  have HW2 := hide hW2
  have HF := hide (show FlushAt W from ⟨c0', e0, f0, h0, by
    have := congrArg List.length g0
    simpa using this, fun u hu => by
    rw [g0] at hu
    rcases List.mem_cons.1 hu with rfl | hu
    · rfl
    · obtain ⟨n, _, rfl⟩ := List.mem_map.1 hu; rfl⟩)
  clear hL h0 h1 g0 g1 hG hW2
  go_enter Tryz.func3, Tryz.ntmps3
  go_wp2_with fail
  refine (config_any _).mono ?_
  rintro e w1 ⟨⟨cs, rfl, hC, hcs⟩, hb1⟩
  have HC := hide hC
  have Hcs := hide hcs
  have HB1 := hide hb1
  clear hC hcs hb1
  go_wp2_with fail
  have G1 : Globs (w1.alloc (.cells #[.slice (some ⟨W.heap.size + 1, 0, none⟩) 2 2, .int .i64 4, .int .i64 2, .int .i64 16, .int .i64 4] 24)) e0 e1 := HG.out.below (bA HB1.out _)
  have C1 : CodesAt (w1.alloc (.cells #[.slice (some ⟨W.heap.size + 1, 0, none⟩) 2 2, .int .i64 4, .int .i64 2, .int .i64 16, .int .i64 4] 24)) (W.heap.size + 1) := ⟨cs, (0, 0), HC.out.alloc _, Hcs.out⟩
  have F1 : FlushAt (w1.alloc (.cells #[.slice (some ⟨W.heap.size + 1, 0, none⟩) 2 2, .int .i64 4, .int .i64 2, .int .i64 16, .int .i64 4] 24)) := HF.out.below (bA HB1.out _)
  have B1 : Blk (w1.alloc (.cells #[.slice (some ⟨W.heap.size + 1, 0, none⟩) 2 2, .int .i64 4, .int .i64 2, .int .i64 16, .int .i64 4] 24)) w1.heap.size 24 #[.slice (some ⟨W.heap.size + 1, 0, none⟩) 2 2, .int .i64 4, .int .i64 2, .int .i64 16, .int .i64 4] := Blk.new ..
  have L1 : Below W.heap.size W (w1.alloc (.cells #[.slice (some ⟨W.heap.size + 1, 0, none⟩) 2 2, .int .i64 4, .int .i64 2, .int .i64 16, .int .i64 4] 24)) := bA HB1.out _
  have S1 : W.heap.size + 1 < (w1.alloc (.cells #[.slice (some ⟨W.heap.size + 1, 0, none⟩) 2 2, .int .i64 4, .int .i64 2, .int .i64 16, .int .i64 4] 24)).heap.size := (HC.out.alloc _).lt
  generalize (w1.alloc (.cells #[.slice (some ⟨W.heap.size + 1, 0, none⟩) 2 2, .int .i64 4, .int .i64 2, .int .i64 16, .int .i64 4] 24)) = wA at *
  refine (format_run G1 C1 (by have := HW2.out; omega)).mono ?_
  rintro e w2 ⟨⟨ci, rfl, hI⟩, hb2⟩
  have HI := hide hI
  have HG2 := hide (G1.below hb2)
  have HC2 := hide (show CodesAt w2 (W.heap.size + 1) by
    obtain ⟨a, b, k1, k2⟩ := C1
    exact ⟨a, b, by rw [hb2.block _ S1]; exact k1, k2⟩)
  have HF2 := hide (F1.below hb2)
  have HB2 := hide (B1.below hb2)
  have HL2 := hide (bT L1 hb2)
  have HS2 := hide (show W.heap.size + 1 < w2.heap.size from Nat.lt_of_lt_of_le S1 hb2.size)
  have d3 : w2.cell? ⟨w1.heap.size, 3, none⟩ = some (.int .i64 16) := HB2.out.cell 3
  clear hI hb2 G1 C1 F1 B1 L1 S1
  go_wp2_with fail
  refine (dkNew_any (some ⟨ci, 0, none⟩) 16 2048 2048 Ev.imgN w2 (by omega) (by omega) rfl img_len HI.out).mono ?_
  rintro e w3 ⟨⟨g, g2, rfl, hD, lg, lg2⟩, hb3⟩
  have HD := hide hD
  have HB3 := hide (HB2.out.below hb3)
  have HF3 := hide (HF2.out.below hb3)
  have HL3 := hide hb3
  have Hlg := hide lg
  have Hlg2 := hide lg2
  clear hD hb3 lg lg2 d3
  go_wp2_with fail
  refine (within_any left _).mono ?_
  rintro e w4 ⟨⟨k, hk, rfl⟩, rfl⟩
  have HK := hide hk
  clear hk
  go_wp2_with fail
  have W1 : IntKind.i64.wrap (65536 - (k : Int)) = 65536 - (k : Int) := IntWalk.i64_in _ (by have := HK.out; omega)
  have LF0 : LF w2 w4 g g2 0 (.slice none 0 0) := ⟨HD.out, HF3.out, HL3.out, fun q hq => by cases hq⟩
  go_loopg [9] 65537 (fun gf n Wl => ∃ (cnt : Nat) (v : Value), 65537 ≤ cnt + gf ∧ n = .int .i64 (cnt : Int) ∧ cnt ≤ 65536 - k ∧ LF w2 Wl g g2 cnt v)
  case atStart => exact ⟨0, _, by omega, rfl, Nat.zero_le _, LF0⟩
  case round =>
    obtain ⟨cnt, v, hgk, rfl, hle, hlf⟩ := hrel
    have HLf := hide hlf
    have HLe := hide hle
    clear hlf hle
    go_wp2_with fail
    refine (dkCount_any g g2 16 cnt v Ev.imgN _ HLf.out.dk).mono ?_
    rintro e w5 ⟨rfl, rfl⟩
    by_cases hc : cnt < 65536 - k
    · have hd1 : decide ((cnt : Int) < 65536 - (k : Int)) = true := by
        have := HK.out
        simp only [decide_eq_true_eq]; omega
      have hd2 : decide ((65536 : Int) < (cnt : Int)) = false := by simp only [decide_eq_false_iff_not]; omega
      have W2 : IntKind.i64.wrap ((cnt : Int) + 1) = (cnt : Int) + 1 := IntWalk.i64_in _ (by omega)
      have HCn := hide hc
      clear hc
      go_wp2_with fail
      refine (dkFlush_ok g g2 16 cnt v Ev.imgN _ HLf.out.dk (by have := HCn.out; omega) HLf.out.fl).mono ?_
      rintro e w6 ⟨rfl, v', hD', hK', hown⟩
      have HLf2 := hide (HLf.out.next HF2.out hD' hK' hown Hlg.out Hlg2.out)
      clear hD' hK' hown
      go_wp2_with fail
      go_roundg (gk - 1)
      case measure => have := HCn.out; omega
      case rel =>
        exact ⟨cnt + 1, v', by have := HCn.out; omega, by go_num, by have := HCn.out; omega, HLf2.out⟩
    · have hd1 : decide ((cnt : Int) < 65536 - (k : Int)) = false := by
        have := HK.out
        simp only [decide_eq_false_iff_not]; omega
      have hcn : cnt = 65536 - k := by have := HLe.out; omega
      clear hc
      have HBr := hide (HB2.out.below HLf.out.bel)
      obtain ⟨a1, c1, c2, g3, c3, hAt⟩ := HLf.out.at_ (by have := HK.out; omega) HG2.out HC2.out (by have := HW2.out; omega) HS2.out Hlg.out Hlg2.out
      rw [hcn] at hAt
      have HAt := hide hAt
      clear hAt
      subst hcn
      have d0 := HBr.out.cell 0
      have d1 := HBr.out.cell 1
      have d2 := HBr.out.cell 2
      have d3 := HBr.out.cell 3
      have d4 := HBr.out.cell 4
      simp at d0 d1 d2 d3 d4
      go_wp2_with fail
      refine (recover_run HK.out HAt.out).mono ?_
      rintro e w6 ⟨⟨r0, r1, r2, lv, ep, er, A, n2, cp, rfl, hq, hcase⟩, hb6⟩
      have HQ := hide hq
      have HB6 := hide (bT HL2.out hb6)
      clear hq hb6 d0 d1 d2 d3 d4 hd1
      rcases hcase with ⟨hk4, rfl, rfl, ⟨A', c', rfl⟩, hn2⟩ | ⟨hk4, rfl, rfl, rfl, hn2⟩
      · have hd4 : decide ((4 : Int) ≤ (k : Int)) = true := by simp only [decide_eq_true_eq]; omega
        have W3 : IntKind.i64.wrap (65536 - (k : Int) + 4) = 65536 - (k : Int) + 4 := IntWalk.i64_in _ (by have := HK.out; omega)
        have hn3 : (n2 : Int) = 65536 - (k : Int) + 4 := by have := HK.out; omega
        have HN := hide hn3
        clear hn2 hn3 hk4
        go_wp2_with fail
        refine (count_any g A n2 cp _ (bget (bA (Below.refl _ _) _) HQ.out)).mono ?_
        rintro e w7 ⟨rfl, rfl⟩
        rw [HN.out]
        go_wp2_with fail
        go_ret
        exact ⟨rfl, bA HB6.out _⟩
      · have hd4 : decide ((4 : Int) ≤ (k : Int)) = false := by simp only [decide_eq_false_iff_not]; omega
        subst hn2
        clear hk4
        go_wp2_with fail
        refine (count_any g A 65536 cp _ (bget (bA (Below.refl _ _) _) HQ.out)).mono ?_
        rintro e w7 ⟨rfl, rfl⟩
        go_wp2_with fail
        go_ret
        exact ⟨rfl, bA HB6.out _⟩
end Go.Proofs.YtaokjpbgdehhiaaGreatDoor.K
