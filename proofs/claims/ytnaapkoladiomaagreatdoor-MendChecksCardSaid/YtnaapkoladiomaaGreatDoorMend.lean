/- mend.Room, mend.empty, mend.Check: which configuration may be. -/
import Derived.Test.YtnaapkoladiomaaGreatDoorNew
import Derived.Test.YtnaapkoladiomaaGreatDoorState
import Derived.Deep.RegionHeld3
namespace Go.Proofs.YtnaapkoladiomaaGreatDoor.B
open Go.RowKit

/-- A configuration as a value. -/
abbrev cfgV (A : Option Addr) (n c : Nat) (st hd se sl : Int) : Value := .agg #[.slice A n c, .int .i64 st, .int .i64 hd, .int .i64 se, .int .i64 sl]
abbrev cfgC (A : Option Addr) (n c : Nat) (st hd se sl : Int) : Array Value := #[.slice A n c, .int .i64 st, .int .i64 hd, .int .i64 se, .int .i64 sl]
def roomOf (sl : Int) : Int := if sl < 2 ∨ 1024 < sl then 0 else (sl - 1) * 128

theorem room_any (A : Option Addr) (n c : Nat) (st hd se sl : Int) (w : World) :
    Calls Tryz.prog 15 #[cfgV A n c st hd se sl] w fun e w' => e = .returned (.int .i64 (roomOf sl)) ∧ w' = w.alloc (.cells (cfgC A n c st hd se sl) 24) := by
  by_cases h1 : sl < 2
  · have hx : roomOf sl = 0 := by simp [roomOf, h1]
    have HX := hide hx
    clear hx
    go_enter Tryz.func15, Tryz.ntmps15
    go_wp2_with fail
    go_ret
    exact ⟨by rw [HX.out]; rfl, rfl⟩
  by_cases h2 : 1024 < sl
  · have hx : roomOf sl = 0 := by simp [roomOf, h2]
    have HX := hide hx
    clear hx
    go_enter Tryz.func15, Tryz.ntmps15
    go_wp2_with fail
    go_ret
    exact ⟨by rw [HX.out]; rfl, rfl⟩
  · have hx : roomOf sl = (sl - 1) * 128 := by simp [roomOf, h1, h2]
    have HX := hide hx
    have w1 : IntKind.i64.wrap (sl - 1) = sl - 1 := IntWalk.i64_in _ (by omega)
    have w2 : IntKind.i64.wrap ((sl - 1) * 128) = (sl - 1) * 128 := IntWalk.i64_in _ (by omega)
    clear hx
    go_enter Tryz.func15, Tryz.ntmps15
    go_wp2_with fail
    go_ret
    exact ⟨by rw [HX.out]; rfl, rfl⟩

/-- mend.empty's answer. -/
def emptyE (ss : List ByteArray) (st hd se sl : Int) : Int :=
  if st < 1 ∨ 64 < st ∨ hd < 1 ∨ 16 < hd then 2 else if roomOf sl = 0 ∨ se < 2 * sl + 1 ∨ 4096 < se then 130 else newE ss (roomOf sl)
abbrev noState : Value := .agg #[.int .i64 0, .int .i64 0, .int .i64 0, .slice none 0 0, .slice none 0 0, .slice none 0 0]
abbrev newState (room : Int) (v : Value) : Value := .agg #[.int .i64 room, .int .i64 0, .int .i64 0, v, .slice none 0 0, .slice none 0 0]
def EmptyPost (ss : List ByteArray) (st hd se sl : Int) (w : World) (e : Ending) (w' : World) : Prop :=
  Below w.heap.size w w' ∧ ((emptyE ss st hd se sl ≠ 0 ∧ e = .returned (.tuple #[noState, .int .i64 (emptyE ss st hd se sl)])) ∨
    (emptyE ss st hd se sl = 0 ∧ ∃ v, e = .returned (.tuple #[newState (roomOf sl) v, .int .i64 0]) ∧ w'.ownsRow w.heap.size 80 3 v ss.length (lvCells ss)))
theorem EmptyPost.no {ss : List ByteArray} {st hd se sl : Int} {w w' : World} {x : Int} (hx : emptyE ss st hd se sl = x) (h0 : x ≠ 0) (hb : Below w.heap.size w w') : EmptyPost ss st hd se sl w (.returned (.tuple #[noState, .int .i64 x])) w' := by
  subst hx
  exact ⟨hb, .inl ⟨h0, rfl⟩⟩

theorem new_ok (A : Option Addr) (n c : Nat) (ss : List ByteArray) (room : Int) (w : World) (hl : ss.length = n) (hn : n ≤ 9223372036854775807) (hr : Rd w 1 A n (strs ss)) (h0 : newE ss room = 0) :
    Calls Tryz.prog 75 #[.slice A n c, .int .i64 room] w fun e w' => (∃ g lp, e = .returned (.tuple #[.pointer (some ⟨g, 0, none⟩), .int .i64 0]) ∧ Led0 w' g room (wt0 ss : Nat) ss (lm0 ss) lp w.heap.size) ∧ Below w.heap.size w w' := by
  refine (new_any A n c ss room w hl hn hr).mono ?_
  rintro e w1 ⟨hb, ⟨h, _⟩ | ⟨_, h⟩⟩
  · exact absurd h0 h
  · exact ⟨h, hb⟩
theorem new_no (A : Option Addr) (n c : Nat) (ss : List ByteArray) (room : Int) (w : World) (hl : ss.length = n) (hn : n ≤ 9223372036854775807) (hr : Rd w 1 A n (strs ss)) (h0 : ¬ newE ss room = 0) :
    Calls Tryz.prog 75 #[.slice A n c, .int .i64 room] w fun e w' => e = .returned (.tuple #[.pointer none, .int .i64 (newE ss room)]) ∧ Below w.heap.size w w' := by
  refine (new_any A n c ss room w hl hn hr).mono ?_
  rintro e w1 ⟨hb, ⟨_, h⟩ | ⟨h, _⟩⟩
  · exact ⟨h, hb⟩
  · exact absurd h h0

set_option maxRecDepth 100000 in
set_option maxHeartbeats 2000000 in
theorem mendEmpty_any (A : Option Addr) (n c : Nat) (ss : List ByteArray) (st hd se sl : Int) (w : World) (hl : ss.length = n) (hn : n ≤ 9223372036854775807) (hr : Rd w 1 A n (strs ss)) :
    Calls Tryz.prog 43 #[cfgV A n c st hd se sl] w (EmptyPost ss st hd se sl w) := by
  by_cases h1 : st < 1
  · have hx : emptyE ss st hd se sl = 2 := by simp [emptyE, h1]
    have HX := hide hx
    clear hx hl
    go_enter Tryz.func43, Tryz.ntmps43
    go_wp2_with fail
    refine bodyPost_ret (v := .tuple #[noState, .int .i64 2]) (by simp [results, Tryz.results43, go_sem, *]) rfl (EmptyPost.no HX.out (by omega) ?_)
    repeat (first | with_reducible exact hb | with_reducible exact Below.refl _ _ | with_reducible refine bA ?_ _ | with_reducible refine bD ?_ | with_reducible refine bS ?_ (by omega) _)
  by_cases h2 : 64 < st
  · have hx : emptyE ss st hd se sl = 2 := by simp [emptyE, h1, h2]
    have HX := hide hx
    clear hx hl
    go_enter Tryz.func43, Tryz.ntmps43
    go_wp2_with fail
    refine bodyPost_ret (v := .tuple #[noState, .int .i64 2]) (by simp [results, Tryz.results43, go_sem, *]) rfl (EmptyPost.no HX.out (by omega) ?_)
    repeat (first | with_reducible exact hb | with_reducible exact Below.refl _ _ | with_reducible refine bA ?_ _ | with_reducible refine bD ?_ | with_reducible refine bS ?_ (by omega) _)
  by_cases h3 : hd < 1
  · have hx : emptyE ss st hd se sl = 2 := by simp [emptyE, h1, h2, h3]
    have HX := hide hx
    clear hx hl
    go_enter Tryz.func43, Tryz.ntmps43
    go_wp2_with fail
    refine bodyPost_ret (v := .tuple #[noState, .int .i64 2]) (by simp [results, Tryz.results43, go_sem, *]) rfl (EmptyPost.no HX.out (by omega) ?_)
    repeat (first | with_reducible exact hb | with_reducible exact Below.refl _ _ | with_reducible refine bA ?_ _ | with_reducible refine bD ?_ | with_reducible refine bS ?_ (by omega) _)
  by_cases h4 : 16 < hd
  · have hx : emptyE ss st hd se sl = 2 := by simp [emptyE, h1, h2, h3, h4]
    have HX := hide hx
    clear hx hl
    go_enter Tryz.func43, Tryz.ntmps43
    go_wp2_with fail
    refine bodyPost_ret (v := .tuple #[noState, .int .i64 2]) (by simp [results, Tryz.results43, go_sem, *]) rfl (EmptyPost.no HX.out (by omega) ?_)
    repeat (first | with_reducible exact hb | with_reducible exact Below.refl _ _ | with_reducible refine bA ?_ _ | with_reducible refine bD ?_ | with_reducible refine bS ?_ (by omega) _)
  by_cases h5 : sl < 2
  · have hx : emptyE ss st hd se sl = 130 := by simp [emptyE, h1, h2, h3, h4, roomOf, h5]
    have HX := hide hx
    clear hx hl
    go_enter Tryz.func43, Tryz.ntmps43
    go_wp2_with fail
    refine (room_any A n c st hd se sl _).mono ?_
    rintro e w1 ⟨rfl, rfl⟩
    have hr0 : roomOf sl = 0 := by simp [roomOf, h5]
    rw [hr0]
    go_wp2_with fail
    refine bodyPost_ret (v := .tuple #[noState, .int .i64 130]) (by simp [results, Tryz.results43, go_sem, *]) rfl (EmptyPost.no HX.out (by omega) ?_)
    repeat (first | with_reducible exact hb | with_reducible exact Below.refl _ _ | with_reducible refine bA ?_ _ | with_reducible refine bD ?_ | with_reducible refine bS ?_ (by omega) _)
  by_cases h6 : 1024 < sl
  · have hx : emptyE ss st hd se sl = 130 := by simp [emptyE, h1, h2, h3, h4, roomOf, h5, h6]
    have HX := hide hx
    clear hx hl
    go_enter Tryz.func43, Tryz.ntmps43
    go_wp2_with fail
    refine (room_any A n c st hd se sl _).mono ?_
    rintro e w1 ⟨rfl, rfl⟩
    have hr0 : roomOf sl = 0 := by simp [roomOf, h6]
    rw [hr0]
    go_wp2_with fail
    refine bodyPost_ret (v := .tuple #[noState, .int .i64 130]) (by simp [results, Tryz.results43, go_sem, *]) rfl (EmptyPost.no HX.out (by omega) ?_)
    repeat (first | with_reducible exact hb | with_reducible exact Below.refl _ _ | with_reducible refine bA ?_ _ | with_reducible refine bD ?_ | with_reducible refine bS ?_ (by omega) _)
  have hro : roomOf sl = (sl - 1) * 128 := by simp [roomOf, h5, h6]
  have hro0 : (roomOf sl == 0) = false := by rw [beq_eq_false_iff_ne]; omega
  have k1 : IntKind.i64.wrap (2 * sl) = 2 * sl := IntWalk.i64_in _ (by omega)
  have k2 : IntKind.i64.wrap (2 * sl + 1) = 2 * sl + 1 := IntWalk.i64_in _ (by omega)
  have hro1 : ¬ roomOf sl = 0 := by omega
  by_cases h7 : se < 2 * sl + 1
  · have hx : emptyE ss st hd se sl = 130 := by simp [emptyE, h1, h2, h3, h4, hro1, h7]
    have HX := hide hx
    clear hx hl
    go_enter Tryz.func43, Tryz.ntmps43
    go_wp2_with fail
    refine (room_any A n c st hd se sl _).mono ?_
    rintro e w1 ⟨rfl, rfl⟩
    go_wp2_with fail
    refine bodyPost_ret (v := .tuple #[noState, .int .i64 130]) (by simp [results, Tryz.results43, go_sem, *]) rfl (EmptyPost.no HX.out (by omega) ?_)
    repeat (first | with_reducible exact hb | with_reducible exact Below.refl _ _ | with_reducible refine bA ?_ _ | with_reducible refine bD ?_ | with_reducible refine bS ?_ (by omega) _)
  by_cases h8 : 4096 < se
  · have hx : emptyE ss st hd se sl = 130 := by simp [emptyE, h1, h2, h3, h4, hro1, h7, h8]
    have HX := hide hx
    clear hx hl
    go_enter Tryz.func43, Tryz.ntmps43
    go_wp2_with fail
    refine (room_any A n c st hd se sl _).mono ?_
    rintro e w1 ⟨rfl, rfl⟩
    go_wp2_with fail
    refine bodyPost_ret (v := .tuple #[noState, .int .i64 130]) (by simp [results, Tryz.results43, go_sem, *]) rfl (EmptyPost.no HX.out (by omega) ?_)
    repeat (first | with_reducible exact hb | with_reducible exact Below.refl _ _ | with_reducible refine bA ?_ _ | with_reducible refine bD ?_ | with_reducible refine bS ?_ (by omega) _)
  have hx : emptyE ss st hd se sl = newE ss (roomOf sl) := by simp [emptyE, h1, h2, h3, h4, hro1, h7, h8]
  have HX := hide hx
  have HR := hide hr
  have HL := hide hl
  have HRo := hide hro
  clear hx hro1 hr hro hl
  generalize hR : roomOf sl = R at *
  by_cases hN : newE ss R = 0
  · have HN := hide hN
    clear hN
    go_enter Tryz.func43, Tryz.ntmps43
    go_wp2_with fail
    refine (room_any A n c st hd se sl _).mono ?_
    rintro e w1 ⟨rfl, rfl⟩
    rw [hR]
    go_wp2_with fail
    go_region_held3 (fun w' => w'.cell? ⟨w.heap.size, 0, none⟩ = some (.slice A n c) ∧ w'.cell? ⟨w.heap.size, 1, none⟩ = some (.int .i64 st) ∧ w'.cell? ⟨w.heap.size, 2, none⟩ = some (.int .i64 hd) ∧ w'.cell? ⟨w.heap.size, 3, none⟩ = some (.int .i64 se) ∧ w'.cell? ⟨w.heap.size, 4, none⟩ = some (.int .i64 sl))
      (first
        | go_keep
        | (refine ⟨bget hb2 (by go_keep), bget hb2 (by go_keep), bget hb2 (by go_keep), bget hb2 (by go_keep), bget hb2 (by go_keep)⟩))
      (first
        | (go_at_call 15; refine (room_any A n c st hd se sl _).mono ?_; rintro e w1 ⟨rfl, rfl⟩; rw [hR])
        | (go_at_call 75; refine (new_ok A n c ss R _ HL.out hn (HR.out.below (bD (bA (bA (bA (bA (Below.refl _ _) _) _) _) _))) HN.out).mono ?_; rintro e w2 ⟨⟨g, lp, rfl, hled⟩, hb2⟩))
    have HZ := hide (Blk.below (g := w.heap.size + 1) (t := 29) (cs := #[.int .i64 0, .int .i64 0, .int .i64 0, .slice none 0 0, .slice none 0 0, .slice none 0 0]) (by repeat (first | exact Blk.new1 (by simp) _ _ | refine Blk.alloc ?_ _ | refine Blk.drew_ ?_)) hb2)
    have HB2 := hide (show Below w.heap.size w w2 from bT (by repeat (first | exact Below.refl _ _ | refine bA ?_ _ | refine bD ?_)) hb2)
    clear hb2
    rename_i hHeld
    clear hHeld
    go_wp2_with fail
    refine (state0_any g R _ ss lp _ _ hled (by have h1 := HN.out; have h2 := HL.out; simp only [newE] at h1; repeat (split at h1; omega); omega)).mono ?_
    rintro e w3 ⟨⟨v, rfl, hv⟩, hb3⟩
    obtain ⟨A1, c1, rfl, hc1⟩ := own_slice hv
    have HZ3 := hide (HZ.out.below hb3)
    have HB3 := hide (bT HB2.out hb3)
    have HV := hide hv
    have HS2 := hide HB2.out.size
    clear hv hb3 hled
    have r0 : w3.cell? ⟨w.heap.size + 1, 0, none⟩ = some (.int .i64 0) := HZ3.out.cell 0
    have f0 := HZ3.out.frozen 0
    have r1 : w3.cell? ⟨w.heap.size + 1, 1, none⟩ = some (.int .i64 0) := HZ3.out.cell 1
    have f1 := HZ3.out.frozen 1
    have r2 : w3.cell? ⟨w.heap.size + 1, 2, none⟩ = some (.int .i64 0) := HZ3.out.cell 2
    have f2 := HZ3.out.frozen 2
    have r3 : w3.cell? ⟨w.heap.size + 1, 3, none⟩ = some (.slice none 0 0) := HZ3.out.cell 3
    have f3 := HZ3.out.frozen 3
    have r4 : w3.cell? ⟨w.heap.size + 1, 4, none⟩ = some (.slice none 0 0) := HZ3.out.cell 4
    have f4 := HZ3.out.frozen 4
    have r5 : w3.cell? ⟨w.heap.size + 1, 5, none⟩ = some (.slice none 0 0) := HZ3.out.cell 5
    have f5 := HZ3.out.frozen 5
    go_wp2_with fail
    refine bodyPost_ret (v := .tuple #[newState R (.slice A1 ss.length c1), .int .i64 0]) (by simp [results, Tryz.results43, go_sem, *]) rfl ⟨?_, .inr ⟨HX.out.trans HN.out, _, by rw [hR], ?_⟩⟩
    · have hb := HB3.out
      repeat (first | with_reducible exact hb | with_reducible exact Below.refl _ _ | with_reducible refine bA ?_ _ | with_reducible refine bD ?_ | with_reducible refine bS ?_ (by omega) _)
    · have h := HV.out
      have hz := HS2.out
      refine own_move (own_low h hz) fun q hq => ?_
      have hge : w.heap.size + 1 < q := by
        have hzz := HZ.out.lt
        rcases h.2 with ⟨e, _⟩ | ⟨g0, c0, cur, e, h1, _⟩
        · rw [e] at hq; simp [Value.ownBlock] at hq
        · rw [e] at hq
          have : g0 = q := by simpa [Value.ownBlock] using hq
          omega
      repeat rw [Below.heap_setCell _ _ _ _ (by simp; omega)]
  · have HN := hide hN
    clear hN
    go_enter Tryz.func43, Tryz.ntmps43
    go_wp2_with fail
    refine (room_any A n c st hd se sl _).mono ?_
    rintro e w1 ⟨rfl, rfl⟩
    rw [hR]
    go_wp2_with fail
    go_region_held3 (fun w' => w'.cell? ⟨w.heap.size, 0, none⟩ = some (.slice A n c) ∧ w'.cell? ⟨w.heap.size, 1, none⟩ = some (.int .i64 st) ∧ w'.cell? ⟨w.heap.size, 2, none⟩ = some (.int .i64 hd) ∧ w'.cell? ⟨w.heap.size, 3, none⟩ = some (.int .i64 se) ∧ w'.cell? ⟨w.heap.size, 4, none⟩ = some (.int .i64 sl))
      (first
        | go_keep
        | (refine ⟨bget hb2 (by go_keep), bget hb2 (by go_keep), bget hb2 (by go_keep), bget hb2 (by go_keep), bget hb2 (by go_keep)⟩))
      (first
        | (go_at_call 15; refine (room_any A n c st hd se sl _).mono ?_; rintro e w1 ⟨rfl, rfl⟩; rw [hR])
        | (go_at_call 75; refine (new_no A n c ss R _ HL.out hn (HR.out.below (bD (bA (bA (bA (bA (Below.refl _ _) _) _) _) _))) HN.out).mono ?_; rintro e w2 ⟨rfl, hb2⟩))
    have HZ := hide (Blk.below (g := w.heap.size + 1) (t := 29) (cs := #[.int .i64 0, .int .i64 0, .int .i64 0, .slice none 0 0, .slice none 0 0, .slice none 0 0]) (by repeat (first | exact Blk.new1 (by simp) _ _ | refine Blk.alloc ?_ _ | refine Blk.drew_ ?_)) hb2)
    have HB2 := hide (show Below w.heap.size w w2 from bT (by repeat (first | exact Below.refl _ _ | refine bA ?_ _ | refine bD ?_)) hb2)
    clear hb2
    rename_i hHeld
    clear hHeld
    have r0 : w2.cell? ⟨w.heap.size + 1, 0, none⟩ = some (.int .i64 0) := HZ.out.cell 0
    have f0 := HZ.out.frozen 0
    have r1 : w2.cell? ⟨w.heap.size + 1, 1, none⟩ = some (.int .i64 0) := HZ.out.cell 1
    have f1 := HZ.out.frozen 1
    have r2 : w2.cell? ⟨w.heap.size + 1, 2, none⟩ = some (.int .i64 0) := HZ.out.cell 2
    have f2 := HZ.out.frozen 2
    have r3 : w2.cell? ⟨w.heap.size + 1, 3, none⟩ = some (.slice none 0 0) := HZ.out.cell 3
    have f3 := HZ.out.frozen 3
    have r4 : w2.cell? ⟨w.heap.size + 1, 4, none⟩ = some (.slice none 0 0) := HZ.out.cell 4
    have f4 := HZ.out.frozen 4
    have r5 : w2.cell? ⟨w.heap.size + 1, 5, none⟩ = some (.slice none 0 0) := HZ.out.cell 5
    have f5 := HZ.out.frozen 5
    have HE := hide (show emptyE ss st hd se sl = newE ss R from HX.out)
    have HN' := hide (show newE ss R ≠ 0 from HN.out)
    have hne : (newE ss R == 0) = false := by rw [beq_eq_false_iff_ne]; exact HN.out
    generalize newE ss R = E at *
    go_wp2_with fail
    refine bodyPost_ret (v := .tuple #[noState, .int .i64 E]) (by simp [results, Tryz.results43, go_sem, *]) rfl (EmptyPost.no HE.out HN'.out ?_)
    have hb := HB2.out
    repeat (first | with_reducible exact hb | with_reducible exact Below.refl _ _ | with_reducible refine bA ?_ _ | with_reducible refine bD ?_ | with_reducible refine bS ?_ (by omega) _)
end Go.Proofs.YtnaapkoladiomaaGreatDoor.B
