/- stock.text, isCode, isId: which texts are names: what the walks of these functions come to. -/
import Derived.Test.YtaokjpbgdehhiaaGreatDoorBase
import Derived.Lib.OthersKept
import Derived.Lib.TrimU
namespace Go.Proofs.YtaokjpbgdehhiaaGreatDoor.B
open Go.RowKit

def bad (r : Nat) : Bool := decide (r < 33) || decide (126 < r)
def okc (c : UInt8) : Bool := decide (33 ≤ c.toNat) && decide (c.toNat ≤ 126)
def okB (s : ByteArray) : Bool := s.data.toList.all okc
def okText (s : ByteArray) (most : Nat) : Bool := decide (1 ≤ s.size) && decide (s.size ≤ most) && okB s
/-- strings.indexFunc of 'bad' from a place on, by at most so many runes. -/
def badAt (s : ByteArray) : Nat → Nat → Int
  | 0, _ => -1
  | f + 1, pos => if pos < s.size then (if bad (Utf8.decode s pos).1 = true then (pos : Int) else badAt s f (pos + (Utf8.decode s pos).2)) else -1
theorem badAt_end (s : ByteArray) (f pos : Nat) (h : ¬ pos < s.size) : badAt s f pos = -1 := by cases f <;> simp [badAt, h]
theorem badAt_spec (s : ByteArray) : ∀ (f pos : Nat), s.size ≤ pos + f →
    (badAt s f pos = -1 ∧ ∀ j (h : j < s.size), pos ≤ j → okc s[j] = true) ∨ (0 ≤ badAt s f pos ∧ ∃ (j : Nat) (h : j < s.size), okc s[j] = false)
  | 0, pos, hf => .inl ⟨rfl, fun j h hj => by omega⟩
  | f + 1, pos, hf => by
    by_cases hp : pos < s.size
    · simp only [badAt, hp, if_true]
      by_cases ha : (s[pos]'hp).toNat < 128
      · rw [decode_ascii s pos hp ha]
        by_cases hb : bad (s[pos]'hp).toNat = true
        · rw [if_pos hb]
          refine .inr ⟨by omega, pos, hp, ?_⟩
          simp [bad, okc] at hb ⊢
          omega
        · rw [if_neg hb]
          rcases badAt_spec s f (pos + 1) (by omega) with ⟨h1, h2⟩ | h
          · refine .inl ⟨h1, fun j h hj => ?_⟩
            rcases Nat.eq_or_lt_of_le hj with e | e
            · subst e
              simp [bad, okc] at hb ⊢
              omega
            · exact h2 j h e
          · exact .inr h
      · have hd := decode_high s pos hp (by omega)
        rw [if_pos (by simp [bad]; omega)]
        exact .inr ⟨by omega, pos, hp, by simp [okc]; omega⟩
    · exact .inl ⟨badAt_end s _ pos hp, fun j h hj => by omega⟩
theorem badAt_ok (s : ByteArray) : decide (badAt s s.size 0 < 0) = okB s := by
  rcases badAt_spec s s.size 0 (by omega) with ⟨h1, h2⟩ | ⟨h1, j, hj, h2⟩
  · rw [h1]
    have : okB s = true := by
      unfold okB
      rw [List.all_eq_true]
      intro c hc
      obtain ⟨j, hj, rfl⟩ := List.mem_iff_getElem.1 hc
      exact h2 j (by simpa using hj) (Nat.zero_le _)
    rw [this]; decide
  · have : okB s = false := by
      cases h : okB s
      · rfl
      · unfold okB at h
        rw [List.all_eq_true] at h
        have := h (s[j]) (by exact List.mem_iff_getElem.2 ⟨j, by simpa using hj, rfl⟩)
        rw [h2] at this; cases this
    rw [this]
    simp; omega

set_option maxHeartbeats 400000 in
theorem text1_any (r : Nat) (w : World) (hr : r ≤ 2147483647) : Calls Tryz.prog 151 #[.int .i32 (r : Int)] w fun e w' => e = .returned (.bool (bad r)) ∧ w = w' := by
  by_cases h1 : r < 33
  · have z1 : decide ((r : Int) < 33) = true := by simp; omega
    go_enter Tryz.func151, Tryz.ntmps151
    go_wp2
    go_ret
    exact ⟨by simp [bad, h1], rfl⟩
  · have z1 : decide ((r : Int) < 33) = false := by simp; omega
    by_cases h2 : 126 < r
    · have z2 : decide ((126 : Int) < (r : Int)) = true := by simp; omega
      go_enter Tryz.func151, Tryz.ntmps151
      go_wp2
      go_ret
      exact ⟨by simp [bad, h1, h2], rfl⟩
    · have z2 : decide ((126 : Int) < (r : Int)) = false := by simp; omega
      go_enter Tryz.func151, Tryz.ntmps151
      go_wp2
      go_ret
      exact ⟨by simp [bad, h1, h2], rfl⟩

set_option maxHeartbeats 1000000 in
set_option maxRecDepth 100000 in
theorem indexFunc_any (s : ByteArray) (w : World) :
    Calls Tryz.prog 169 #[.string s, .func (.func 151) #[] #[], .bool true] w fun e w' => e = .returned (.int .i64 (badAt s s.size 0)) ∧ Below w.heap.size w w' := by
  go_enter Tryz.func169, Tryz.ntmps169
  go_wp2
  go_loopg [] s.size (fun gf wx => ∃ pos : Nat, wx.heap[w.heap.size]? = some (.stringIter s pos) ∧ Below w.heap.size w wx ∧ badAt s gf pos = badAt s s.size 0 ∧ s.size ≤ pos + gf)
  case atStart => exact ⟨0, World.iter_heap w s 0, (Below.refl _ w).alloc (Nat.le_refl _) _, rfl, by omega⟩
  case round =>
    obtain ⟨pos, hit, hbw, hleft, hfu⟩ := hrel
    by_cases hps : pos < s.size
    · obtain ⟨g', rfl⟩ : ∃ g', gk = g' + 1 := ⟨gk - 1, by omega⟩
      have hnx : ∀ ty, (Instr.next (.pointer (some ⟨w.heap.size, 0, none⟩)) true ty).run Tryz.prog wr = _ := fun ty => Lib.run_next_any_at wr w.heap.size s pos ty hit hps
      have hwd := Lib.width_pos s pos
      have hle := decode_le s pos
      obtain ⟨R, hR⟩ : ∃ R, (Utf8.decode s pos).1 = R := ⟨_, rfl⟩
      obtain ⟨K, hK⟩ : ∃ K, (Utf8.decode s pos).2 = K := ⟨_, rfl⟩
      simp only [badAt, hps, if_true, hR, hK] at hleft
      rw [hR, hK] at hnx
      rw [hK] at hwd
      rw [hR] at hle
      have hit2 := Lib.iterAt_heap wr w.heap.size s pos (pos + K) hit
      have hbw2 := Lib.below_iterAt hbw (k := w.heap.size) (Nat.le_refl _) s (pos + K)
      obtain ⟨W, hWd⟩ : ∃ W, wr.iterAt w.heap.size s (pos + K) = W := ⟨_, rfl⟩
      rw [hWd] at hnx hit2 hbw2
      have cS := text1_any R W hle
      cases hsp : bad R <;> rw [hsp] at cS <;> simp only [hsp, if_true, Bool.false_eq_true, if_false] at hleft
      · go_wp2_with (go_at_call 151; refine cS.mono ?_; rintro e W' ⟨rfl, rfl⟩)
        go_roundg g'
        case measure => omega
        case rel => exact ⟨pos + K, hit2, hbw2, hleft, by omega⟩
      · go_wp2_with (go_at_call 151; refine cS.mono ?_; rintro e W' ⟨rfl, rfl⟩)
        go_ret
        exact ⟨by rw [← hleft] <;> rfl, hbw2⟩
    · have hnx : ∀ ty, (Instr.next (.pointer (some ⟨w.heap.size, 0, none⟩)) true ty).run Tryz.prog wr = _ := fun ty => Lib.run_next_end_at wr w.heap.size s pos ty hit hps
      rw [badAt_end s gk pos hps] at hleft
      go_wp2
      go_ret
      exact ⟨by rw [← hleft] <;> rfl, hbw⟩

set_option maxHeartbeats 400000 in
theorem indexF_any (s : ByteArray) (w : World) :
    Calls Tryz.prog 150 #[.string s, .func (.func 151) #[] #[]] w fun e w' => e = .returned (.int .i64 (badAt s s.size 0)) ∧ Below w.heap.size w w' := by
  go_enter Tryz.func150, Tryz.ntmps150
  go_wp2_with (go_at_call 169; refine (indexFunc_any s _).mono ?_; rintro e w' ⟨rfl, hb⟩)
  go_ret
  exact ⟨rfl, hb⟩

theorem not_nil {s : ByteArray} (h : 1 ≤ s.size) : ¬ s.toList = [] := by
  rw [ByteArray.toList_eq]
  intro e
  have : s.data.toList.length = 0 := by rw [e]; rfl
  rw [Array.length_toList] at this
  have hs : s.size = s.data.size := rfl
  omega
theorem nil_of {s : ByteArray} (h : ¬ 1 ≤ s.size) : s.toList = [] := by
  rw [ByteArray.toList_eq]
  apply List.eq_nil_of_length_eq_zero
  rw [Array.length_toList]
  have hs : s.size = s.data.size := rfl
  omega

set_option maxHeartbeats 400000 in
theorem text_any (s : ByteArray) (n : Nat) (w : World) :
    Calls Tryz.prog 96 #[.string s, .int .i64 (n : Int)] w fun e w' => e = .returned (.bool (okText s n)) ∧ Below w.heap.size w w' := by
  by_cases h0 : 1 ≤ s.size
  · have y1 := not_nil h0
    have y2 : s.toList.isEmpty = false := by simpa using y1
    by_cases h1 : s.size ≤ n
    · have z1 : decide (s.size ≤ n) = true := by simpa using h1
      have zi : decide ((s.size : Int) ≤ (n : Int)) = true := by simpa using h1
      go_enter Tryz.func96, Tryz.ntmps96
      go_wp2_with fail
      refine (indexF_any s _).mono ?_
      rintro e w1 ⟨rfl, hb⟩
      have hB := hide (badAt_ok s)
      generalize badAt s s.size 0 = q at *
      go_wp2_with fail
      all_goals
        go_ret
        refine ⟨?_, hb⟩
        have := hB.out
        simp_all [okText]
    · have z1 : decide (s.size ≤ n) = false := by simpa using h1
      have zi : decide ((s.size : Int) ≤ (n : Int)) = false := by simpa using h1
      go_enter Tryz.func96, Tryz.ntmps96
      go_wp2_with fail
      go_ret
      exact ⟨by simp [okText, h1], Below.refl _ _⟩
  · have y1 := nil_of h0
    have y2 : s.toList.isEmpty = true := by simpa using y1
    go_enter Tryz.func96, Tryz.ntmps96
    go_wp2_with fail
    go_ret
    exact ⟨by simp [okText, h0], Below.refl _ _⟩

set_option maxHeartbeats 400000 in
theorem isCode_any (s : ByteArray) (w : World) :
    Calls Tryz.prog 47 #[.string s] w fun e w' => e = .returned (.bool (okText s 40)) ∧ Below w.heap.size w w' := by
  go_enter Tryz.func47, Tryz.ntmps47
  go_wp2_with fail
  refine (text_any s 40 _).mono ?_
  rintro e w1 ⟨rfl, hb⟩
  go_wp2_with fail
  go_ret
  exact ⟨rfl, hb⟩

set_option maxHeartbeats 400000 in
theorem isId_any (s : ByteArray) (w : World) :
    Calls Tryz.prog 155 #[.string s] w fun e w' => e = .returned (.bool (okText s 64)) ∧ Below w.heap.size w w' := by
  go_enter Tryz.func155, Tryz.ntmps155
  go_wp2_with fail
  refine (text_any s 64 _).mono ?_
  rintro e w1 ⟨rfl, hb⟩
  go_wp2_with fail
  go_ret
  exact ⟨rfl, hb⟩

set_option maxHeartbeats 400000 in
theorem new1_any (s : ByteArray) (w : World) :
    Calls Tryz.prog 46 #[.string s] w fun e w' => e = .returned (.bool (!okText s 40)) ∧ Below w.heap.size w w' := by
  go_enter Tryz.func46, Tryz.ntmps46
  go_wp2_with fail
  refine (isCode_any s _).mono ?_
  rintro e w1 ⟨rfl, hb⟩
  go_wp2_with fail
  go_ret
  exact ⟨rfl, hb⟩
end Go.Proofs.YtaokjpbgdehhiaaGreatDoor.B
