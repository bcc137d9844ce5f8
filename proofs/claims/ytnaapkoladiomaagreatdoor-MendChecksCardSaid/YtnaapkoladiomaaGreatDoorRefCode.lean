/- The document's Code: which texts are codes of goods: as the program's. -/
import Derived.Test.YtnaapkoladiomaaGreatDoorText
namespace Go.Proofs.YtnaapkoladiomaaGreatDoor.B
open Go.RowKit

theorem okB_all {s : ByteArray} (h : ∀ j (h : j < s.size), okc s[j] = true) : okB s = true := by
  unfold okB
  rw [List.all_eq_true]
  intro c hc
  obtain ⟨j, hj, rfl⟩ := List.mem_iff_getElem.1 hc
  exact h j (by simpa using hj)
theorem okText_bad {s : ByteArray} {k : Nat} (hk : k < s.size) (h : okc s[k] = false) (most : Nat) : okText s most = false := by
  have : okB s = false := by
    cases hb : okB s
    · rfl
    · unfold okB at hb
      rw [List.all_eq_true] at hb
      have := hb (s[k]) (List.mem_iff_getElem.2 ⟨k, by simpa using hk, rfl⟩)
      rw [h] at this; cases this
  simp [okText, this]

set_option maxHeartbeats 1000000 in
theorem rtext_any (s : ByteArray) (most : Nat) (w : World) (hs : s.size ≤ 9223372036854775807) (_hm : most ≤ 9223372036854775807) :
    Calls Tryz.prog 110 #[.string s, .int .i64 (most : Int)] w fun e w' => e = .returned (.bool (okText s most)) ∧ w' = w := by
  go_enter Tryz.func110, Tryz.ntmps110
  go_wp2_with fail
  go_loopg [5] s.size (fun gf i wr => ∃ k : Nat, s.size ≤ k + gf ∧ k ≤ s.size ∧ i = .int .i64 k ∧ w = wr ∧ Hid (∀ j (h : j < s.size), j < k → okc s[j] = true))
  case atStart => exact ⟨0, by omega, by omega, rfl, rfl, hide (fun j h hj => by omega)⟩
  case round =>
    obtain ⟨k, hg, hk, rfl, rfl, hI⟩ := hrel
    by_cases hlt : k < s.size
    · have HI := hide hI.out
      clear hI
      by_cases h1 : s[k].toNat < 33
      · have z1 : decide ((s[k].toNat : Int) < 33) = true := by simp; omega
        have hx : okText s most = false := okText_bad hlt (by simp [okc]; omega) most
        have HX := hide hx
        clear hx h1
        go_wp2_with fail
        go_ret
        exact ⟨by rw [HX.out]; rfl, rfl⟩
      · have z1 : decide ((s[k].toNat : Int) < 33) = false := by simp; omega
        by_cases h2 : 126 < s[k].toNat
        · have z2 : decide ((126 : Int) < (s[k].toNat : Int)) = true := by simp; omega
          have hx : okText s most = false := okText_bad hlt (by simp [okc]; omega) most
          have HX := hide hx
          clear hx h1 h2
          go_wp2_with fail
          go_ret
          exact ⟨by rw [HX.out]; rfl, rfl⟩
        · have z2 : decide ((126 : Int) < (s[k].toNat : Int)) = false := by simp; omega
          have hx : okc s[k] = true := by simp [okc]; omega
          have HX := hide hx
          clear hx h1 h2
          go_wp2_with fail
          go_roundg (gk - 1)
          case measure => omega
          case rel =>
            refine ⟨k + 1, by omega, by omega, by go_num, rfl, hide (fun j h hj => ?_)⟩
            rcases Nat.lt_or_eq_of_le (Nat.le_of_lt_succ hj) with h' | h'
            · exact HI.out j h h'
            · subst h'; exact HX.out
    · obtain rfl : k = s.size := by omega
      have hB : okB s = true := okB_all (fun j h => hI.out j h h)
      have HB := hide hB
      clear hI hB
      by_cases h1 : 1 ≤ s.size
      · by_cases h2 : s.size ≤ most
        · have hx : okText s most = true := by simp [okText, h1, h2, HB.out]
          have HX := hide hx
          clear hx
          go_wp2_with fail
          go_ret
          exact ⟨by rw [HX.out]; rfl, rfl⟩
        · have hx : okText s most = false := by simp [okText, h1, h2]
          have HX := hide hx
          clear hx
          go_wp2_with fail
          go_ret
          exact ⟨by rw [HX.out]; rfl, rfl⟩
      · have hx : okText s most = false := by simp [okText, h1]
        have HX := hide hx
        clear hx
        go_wp2_with fail
        go_ret
        exact ⟨by rw [HX.out]; rfl, rfl⟩

theorem rcode_any (s : ByteArray) (w : World) (hs : s.size ≤ 9223372036854775807) :
    Calls Tryz.prog 77 #[.string s] w fun e w' => e = .returned (.bool (okText s 40)) ∧ w' = w := by
  go_enter Tryz.func77, Tryz.ntmps77
  go_wp2_with fail
  refine (rtext_any s 40 _ hs (by omega)).mono ?_
  rintro e w1 ⟨rfl, rfl⟩
  go_wp2_with fail
  go_ret
  exact ⟨rfl, rfl⟩
end Go.Proofs.YtnaapkoladiomaaGreatDoor.B
