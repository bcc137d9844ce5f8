/- stock.New: its errors, and the ledger that it makes. -/
import Derived.Test.YtnaapkoladiomaaGreatDoorEmpty
namespace Go.Proofs.YtnaapkoladiomaaGreatDoor.B
open Go.RowKit

/-- stock.New's answer. -/
def newE (ss : List ByteArray) (room : Int) : Int :=
  if ss.length = 0 ∨ room < 0 ∨ 131072 < room then 2 else if 512 < ss.length then 1 else if ss.all (okText · 40) = false then 123 else if rise ss = false then 145 else if room < (wt0 ss : Int) then 5 else 0
def NewPost (ss : List ByteArray) (room : Int) (w : World) (e : Ending) (w' : World) : Prop :=
  Below w.heap.size w w' ∧ ((newE ss room ≠ 0 ∧ e = .returned (.tuple #[.pointer none, .int .i64 (newE ss room)])) ∨
    (newE ss room = 0 ∧ ∃ g lp, e = .returned (.tuple #[.pointer (some ⟨g, 0, none⟩), .int .i64 0]) ∧ Led0 w' g room (wt0 ss : Nat) ss (lm0 ss) lp w.heap.size))
theorem NewPost.no {ss : List ByteArray} {room : Int} {w w' : World} {x : Int} (hx : newE ss room = x) (h0 : x ≠ 0) (hb : Below w.heap.size w w') : NewPost ss room w (.returned (.tuple #[.pointer none, .int .i64 x])) w' := by
  subst hx
  exact ⟨hb, .inl ⟨h0, rfl⟩⟩
theorem size_of_ok {s : ByteArray} {n : Nat} (h : okText s n = true) : s.size ≤ n := by
  simp only [okText, Bool.and_eq_true, decide_eq_true_eq] at h
  exact h.1.2

set_option maxHeartbeats 1000000 in
theorem new_any (A : Option Addr) (n c : Nat) (ss : List ByteArray) (room : Int) (w : World) (hl : ss.length = n) (hn : n ≤ 9223372036854775807) (hr : Rd w 1 A n (strs ss)) :
    Calls Tryz.prog 75 #[.slice A n c, .int .i64 room] w (NewPost ss room w) := by
  by_cases h0 : n = 0
  · subst h0
    have hx : newE ss room = 2 := by simp [newE, hl]
    have HX := hide hx
    clear hx hl
    go_enter Tryz.func75, Tryz.ntmps75
    go_wp2_with fail
    go_ret2
    exact NewPost.no HX.out (by omega) (Below.refl _ _)
  have k0 : ((n : Int) == 0) = false := by rw [beq_eq_false_iff_ne]; omega
  by_cases h1 : room < 0
  · have hx : newE ss room = 2 := by simp [newE, h1]
    have HX := hide hx
    clear hx hl
    go_enter Tryz.func75, Tryz.ntmps75
    go_wp2_with fail
    go_ret2
    exact NewPost.no HX.out (by omega) (Below.refl _ _)
  by_cases h2 : 131072 < room
  · have hx : newE ss room = 2 := by simp [newE, h2]
    have HX := hide hx
    clear hx hl
    go_enter Tryz.func75, Tryz.ntmps75
    go_wp2_with fail
    go_ret2
    exact NewPost.no HX.out (by omega) (Below.refl _ _)
  by_cases h3 : 512 < n
  · have hx : newE ss room = 1 := by simp [newE, h1, h2, hl, h0, h3]
    have HX := hide hx
    clear hx hl
    go_enter Tryz.func75, Tryz.ntmps75
    go_wp2_with fail
    go_ret2
    exact NewPost.no HX.out (by omega) (Below.refl _ _)
  cases h4 : ss.all (okText · 40)
  · have hx : newE ss room = 123 := by simp [newE, h1, h2, hl, h0, h3, h4]
    have HX := hide hx
    have HL := hide hl
    have H4 := hide h4
    clear hx hl h4
    go_enter Tryz.func75, Tryz.ntmps75
    go_wp2_with fail
    refine (contCodes_any A n c ss _ HL.out hn hr).mono ?_
    rintro e w1 ⟨rfl, hb⟩
    rw [H4.out]
    go_wp2_with fail
    go_ret2
    exact NewPost.no HX.out (by omega) hb
  cases h5 : rise ss
  · have hx : newE ss room = 145 := by simp [newE, h1, h2, hl, h0, h3, h4, h5]
    have HX := hide hx
    have HL := hide hl
    have H4 := hide h4
    have H5 := hide h5
    clear hx hl h4 h5
    go_enter Tryz.func75, Tryz.ntmps75
    go_wp2_with fail
    refine (contCodes_any A n c ss _ HL.out hn hr).mono ?_
    rintro e w1 ⟨rfl, hb⟩
    rw [H4.out]
    have hr1 := hr.below hb
    go_wp2_with fail
    refine (rising_any A n c ss _ HL.out hn hr1).mono ?_
    rintro e w2 ⟨rfl, m, rfl⟩
    rw [H5.out]
    go_wp2_with fail
    go_ret2
    exact NewPost.no HX.out (by omega) (bN hb m)
  have hs : ∀ s ∈ ss, s.size ≤ 40 := fun s hs => size_of_ok (List.all_eq_true.1 h4 s hs)
  have HS := hide hs
  have hwt := wt0_le ss hs
  have HL := hide hl
  have H4 := hide h4
  have H5 := hide h5
  by_cases h6 : room < (wt0 ss : Int)
  · have hx : newE ss room = 5 := by simp [newE, h1, h2, hl, h0, h3, h4, h5, h6]
    have HX := hide hx
    clear hx hl h4 h5 hs
    go_enter Tryz.func75, Tryz.ntmps75
    go_wp2_with fail
    refine (contCodes_any A n c ss _ HL.out hn hr).mono ?_
    rintro e w1 ⟨rfl, hb⟩
    rw [H4.out]
    have hr1 := hr.below hb
    go_wp2_with fail
    refine (rising_any A n c ss _ HL.out hn hr1).mono ?_
    rintro e w2 ⟨rfl, m, rfl⟩
    rw [H5.out]
    have hr2 := hr1.below (bN (Below.refl _ _) m)
    go_wp2_with fail
    refine (empty_any A n c ss room _ HL.out (by omega) HS.out hr2).mono ?_
    rintro e w3 ⟨⟨g, lp, rfl, hled⟩, hb3⟩
    have HLed := hide hled
    obtain ⟨A', c', bl, bh, bd, hblk, _⟩ := hled.ex
    have c3 : w3.cell? ⟨g, 3, none⟩ = some (.int .i64 (wt0 ss : Nat)) := hblk.cell 3
    clear hblk hled
    go_wp2_with fail
    go_ret2
    exact NewPost.no HX.out (by omega) (bT (bN hb m) hb3)
  · have hx : newE ss room = 0 := by simp [newE, h1, h2, hl, h0, h3, h4, h5, h6]
    have HX := hide hx
    clear hx hl h4 h5 hs
    go_enter Tryz.func75, Tryz.ntmps75
    go_wp2_with fail
    refine (contCodes_any A n c ss _ HL.out hn hr).mono ?_
    rintro e w1 ⟨rfl, hb⟩
    rw [H4.out]
    have hr1 := hr.below hb
    go_wp2_with fail
    refine (rising_any A n c ss _ HL.out hn hr1).mono ?_
    rintro e w2 ⟨rfl, m, rfl⟩
    rw [H5.out]
    have hr2 := hr1.below (bN (Below.refl _ _) m)
    go_wp2_with fail
    refine (empty_any A n c ss room _ HL.out (by omega) HS.out hr2).mono ?_
    rintro e w3 ⟨⟨g, lp, rfl, hled⟩, hb3⟩
    have HLed := hide hled
    obtain ⟨A', c', bl, bh, bd, hblk, _⟩ := hled.ex
    have c3 : w3.cell? ⟨g, 3, none⟩ = some (.int .i64 (wt0 ss : Nat)) := hblk.cell 3
    clear hblk hled
    go_wp2_with fail
    go_ret2
    obtain ⟨A', c', bl, bh, bd, z1, z2, z3, z4, z5, z6, z7, z8⟩ := HLed.out.ex
    have hz : w.heap.size ≤ (w1.drewN m).heap.size := (bN hb m).size
    refine ⟨bT (bN hb m) hb3, .inr ⟨HX.out, g, lp, rfl, ⟨A', c', bl, bh, bd, z1, ?_, z3, z4, z5, by omega, by omega, z8⟩⟩⟩
    exact own_low z2 hz
end Go.Proofs.YtnaapkoladiomaaGreatDoor.B
