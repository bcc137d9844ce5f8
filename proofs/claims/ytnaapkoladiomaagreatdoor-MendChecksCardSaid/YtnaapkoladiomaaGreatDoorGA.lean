/- Contracts of functions of the program, walked, and plain laws. -/
import Derived.Test.YtnaapkoladiomaaGreatDoorRefNew
import Derived.Test.YtnaapkoladiomaaGreatDoorSound
import Derived.Deep.RegionLaw
import Derived.Deep.RegionHeld3
import Derived.BigQuiet
/- The document's Room and Check. Printed by wip/gen_rcheck.py. -/
namespace Go.Proofs.YtnaapkoladiomaaGreatDoor.B
open Go.RowKit

theorem rroom13_any (A : Option Addr) (n c : Nat) (st hd se sl : Int) (w : World) :
    Calls Tryz.prog 16 #[cfgV A n c st hd se sl] w fun e w' => e = .returned (.int .i64 (roomOf sl)) ∧ w' = w.alloc (.cells (cfgC A n c st hd se sl) 24) := by
  by_cases h1 : sl < 2
  · have hx : roomOf sl = 0 := by simp [roomOf, h1]
    have HX := hide hx
    clear hx
    go_enter Tryz.func16, Tryz.ntmps16
    go_wp2_with fail
    go_ret
    exact ⟨by rw [HX.out]; rfl, rfl⟩
  by_cases h2 : 1024 < sl
  · have hx : roomOf sl = 0 := by simp [roomOf, h2]
    have HX := hide hx
    clear hx
    go_enter Tryz.func16, Tryz.ntmps16
    go_wp2_with fail
    go_ret
    exact ⟨by rw [HX.out]; rfl, rfl⟩
  · have hx : roomOf sl = (sl - 1) * 128 := by simp [roomOf, h1, h2]
    have HX := hide hx
    have w1 : IntKind.i64.wrap (sl - 1) = sl - 1 := IntWalk.i64_in _ (by omega)
    have w2 : IntKind.i64.wrap ((sl - 1) * 128) = (sl - 1) * 128 := IntWalk.i64_in _ (by omega)
    clear hx
    go_enter Tryz.func16, Tryz.ntmps16
    go_wp2_with fail
    go_ret
    exact ⟨by rw [HX.out]; rfl, rfl⟩

/-- What New hands back, whatever the error. -/
def RNew2 (ss : List ByteArray) (n : Nat) (room : Int) (w : World) (e : Ending) (w' : World) : Prop :=
  (∃ r A3 n3 c3, e = .returned (.tuple #[stV r 0 0 A3 n3 c3, .int .i64 (newE ss room)]) ∧ (newE ss room = 0 → r = room ∧ n3 = n ∧ Rd w' 3 A3 n (lvCells ss)) ∧ (∀ ad, A3 = some ad → w.heap.size ≤ ad.block)) ∧ Below w.heap.size w w'
theorem rnew2_any (A : Option Addr) (n c : Nat) (ss : List ByteArray) (room : Int) (w : World) (hl : ss.length = n) (hn : n ≤ 9223372036854775807) (hz : ∀ s ∈ ss, s.size ≤ 9223372036854775807) (hr : Rd w 1 A n (strs ss)) :
    Calls Tryz.prog 44 #[.slice A n c, .int .i64 room] w (RNew2 ss n room w) := by
  refine (rnew_any A n c ss room w hl hn hz hr).mono ?_
  rintro e w2 ⟨hb, ⟨h0, rfl⟩ | ⟨h0, v, rfl, hown⟩⟩
  · exact ⟨⟨0, none, 0, 0, rfl, fun h => absurd h h0, fun ad e => by cases e⟩, hb⟩
  · obtain ⟨A2, c2, rfl, hc2⟩ := own_slice hown
    refine ⟨⟨room, A2, _, c2, by rw [h0], fun _ => ⟨rfl, hl, by rw [hl] at hown; exact Rd.of_own hown⟩, fun ad e => own_base hown _ (by subst e; rfl)⟩, hb⟩
abbrev zeroC : Array Value := #[.int .i64 0, .int .i64 0, .int .i64 0, .slice none 0 0, .slice none 0 0, .slice none 0 0]
/-- A new state in a cell of its own. -/
def StAt (W0 : World) (ss : List ByteArray) (n : Nat) (room : Int) (v : Value) (W : World) : Prop :=
  (∃ g r A2 n2 c2, v = .pointer (some ⟨g, 0, none⟩) ∧ Blk W g 29 (stC r 0 0 A2 n2 c2) ∧ (newE ss room = 0 → r = room ∧ n2 = n ∧ Rd W 3 A2 n (lvCells ss))) ∧ Below W0.heap.size W0 W
theorem StAt.new {w3 W : World} {A3 : Option Addr} {n n3 c3 : Nat} {r room : Int} {ss : List ByteArray} (hr : newE ss room = 0 → r = room ∧ n3 = n ∧ Rd w3 3 A3 n (lvCells ss)) (hb : Below W.heap.size W w3) :
    StAt W ss n room (.pointer (some ⟨w3.heap.size, 0, none⟩)) (w3.alloc (.cells (stC r 0 0 A3 n3 c3) 29)) :=
  ⟨⟨_, r, A3, n3, c3, rfl, Blk.new1 rfl _ _, fun h => ⟨(hr h).1, (hr h).2.1, (hr h).2.2.below (bA (Below.refl _ _) _)⟩⟩, bA hb _⟩
theorem StAt.set {w3 W : World} {g : Nat} {A3 : Option Addr} {n n3 c3 : Nat} {r room : Int} {ss : List ByteArray} (HZ : Blk w3 g 29 zeroC) (hr : newE ss room = 0 → r = room ∧ n3 = n ∧ Rd w3 3 A3 n (lvCells ss)) (hA : ∀ ad, A3 = some ad → g < ad.block) (hb : Below W.heap.size W w3) (hg : W.heap.size ≤ g) :
    StAt W ss n room (.pointer (some ⟨g, 0, none⟩)) ((((((w3.setCell ⟨g, 0, none⟩ (.int .i64 r)).setCell ⟨g, 1, none⟩ (.int .i64 0)).setCell ⟨g, 2, none⟩ (.int .i64 0)).setCell ⟨g, 3, none⟩ (.slice A3 n3 c3)).setCell ⟨g, 4, none⟩ (.slice none 0 0)).setCell ⟨g, 5, none⟩ (.slice none 0 0)) := by
  refine ⟨⟨g, r, A3, n3, c3, rfl, ?_, fun h => ⟨(hr h).1, (hr h).2.1, ?_⟩⟩, bS (bS (bS (bS (bS (bS hb hg _) hg _) hg _) hg _) hg _) hg _⟩
  · have := (((((HZ.set_ 0 (.int .i64 r)).set_ 1 (.int .i64 0)).set_ 2 (.int .i64 0)).set_ 3 (.slice A3 n3 c3)).set_ 4 (.slice none 0 0)).set_ 5 (.slice none 0 0)
    simpa using this
  · refine (hr h).2.2.move fun ad e => ?_
    have h1 := hA ad e
    have far : ∀ (V : World) (o : Nat) (u : Value), (V.setCell ⟨g, o, none⟩ u).heap[ad.block]? = V.heap[ad.block]? := fun V o u => Below.heap_setCell _ _ _ _ (by simp; omega)
    rw [far, far, far, far, far, far]

end Go.Proofs.YtnaapkoladiomaaGreatDoor.B
/- The document's Sound of a new ledger's state: true. -/
namespace Go.Proofs.YtnaapkoladiomaaGreatDoor.B
open Go.RowKit

theorem rise_get {ss : List ByteArray} (h : rise ss = true) {k : Nat} {a b : ByteArray} (ha : ss[k]? = some a) (hb : ss[k + 1]? = some b) : lessS a b = true := by
  cases hz : lessS a b with
  | true => rfl
  | false => rw [rise_not ha hb hz] at h; cases h
theorem rcode_ok (s : ByteArray) (w : World) (hs : okText s 40 = true) :
    Calls Tryz.prog 77 #[.string s] w fun e w' => e = .returned (.bool true) ∧ w' = w := by
  have h := rcode_any s w (by have := size_of_ok hs; omega)
  rw [hs] at h
  exact h

set_option maxRecDepth 100000 in
set_option maxHeartbeats 3200000 in
theorem rsoundLevels0 (A : Option Addr) (n c : Nat) (ss : List ByteArray) (w : World) (hl : ss.length = n) (h1 : 1 ≤ n) (h2 : n ≤ 512) (hok : ss.all (okText · 40) = true) (hri : rise ss = true) (hr : Rd w 3 A n (lvCells ss)) :
    Calls Tryz.prog 93 #[.slice A n c] w fun e w' => e = .returned (.bool true) ∧ Below w.heap.size w w' := by
  have HL := hide hl
  have HO := hide hok
  have HRi := hide hri
  have HR := hide hr
  clear hl hok hri hr
  go_enter Tryz.func93, Tryz.ntmps93
  go_wp2_with fail
  go_loopg [3] n (fun gf i wx => ∃ q : Nat, n ≤ q + gf ∧ q ≤ n ∧ i = .int .i64 q ∧ Below w.heap.size w wx)
  case atStart => exact ⟨0, by omega, by omega, rfl, Below.refl _ _⟩
  case round =>
    obtain ⟨q, hg2, hq, rfl, hlow⟩ := hrel
    have HW := hide hlow
    by_cases hlt2 : q < n
    · obtain ⟨b, hb⟩ : ∃ b, ss[q]? = some b := ⟨ss[q]'(by rw [HL.out]; exact hlt2), List.getElem?_eq_getElem _⟩
      obtain ⟨g1, g2, g3⟩ := lv_get ss q hb
      obtain ⟨ad, rfl, hc⟩ := (HR.out.below hlow).cells (by omega)
      have q1 := hc _ _ g1
      have q2 := hc _ _ g2
      have q3 := hc _ _ g3
      rw [add_next ad (q * 3) (by omega)] at q2 q3
      have HOk := hide (List.all_eq_true.1 HO.out b (List.mem_of_getElem? hb))
      have i0 : (0 : Int) ≤ (q : Int) := by omega
      have i1 : (q : Int) < (n : Int) := by omega
      clear g1 g2 g3
      by_cases h0 : q = 0
      · subst h0
        rw [show ad.add (0 * 3) = ad from rfl] at q1 q2 q3
        clear hb hc hlow
        go_wp2_with fail
        go_quiet (first | (go_at_call 77; refine Calls.quiet_of_same (rcode_ok b _ HOk.out)))
        go_wp2_with fail
        go_roundg (gk - 1)
        case measure => omega
        case rel => exact ⟨1, by omega, by omega, by go_num, bN HW.out _⟩
      · obtain ⟨j, rfl⟩ : ∃ j, q = j + 1 := ⟨q - 1, by omega⟩
        obtain ⟨a, ha⟩ : ∃ a, ss[j]? = some a := ⟨ss[j]'(by rw [HL.out]; omega), List.getElem?_eq_getElem _⟩
        have p1 := hc _ _ (lv_get ss j ha).1
        have hle := bl_le b.toList a.toList
        rw [show Op.bytesLess a.toList b.toList = true from rise_get HRi.out ha hb] at hle
        simp only [Bool.not_true, Bool.or_eq_false_iff] at hle
        obtain ⟨hx, hy⟩ := hle
        have i2 : (j : Int) < (n : Int) := by omega
        have i3 : (0 : Int) ≤ (j : Int) + 1 := by omega
        have i4 : (j : Int) + 1 < (n : Int) := by omega
        have i5 : (0 : Int) ≤ (j : Int) := by omega
        have w0 : IntKind.i64.wrap (j : Int) = (j : Int) := IntWalk.i64_in _ (by omega)
        have w1 : IntKind.i64.wrap ((j : Int) + 1 - 1) = (j : Int) := by rw [show (j : Int) + 1 - 1 = j by omega]; exact w0
        have t0 : ((j : Int) + 1).toNat = j + 1 := by omega
        have z0 : (0 : Int) < (j : Int) + 1 := by omega
        clear hb hc ha hlow
        go_wp2_with fail
        go_quiet (first | (go_at_call 77; refine Calls.quiet_of_same (rcode_ok b _ HOk.out)))
        go_wp2_with fail
        go_roundg (gk - 1)
        case measure => omega
        case rel => exact ⟨j + 2, by omega, by omega, by go_num, bN HW.out _⟩
    · obtain rfl : q = n := by omega
      have i1 : (1 : Int) ≤ (q : Int) := by omega
      have i2 : (q : Int) ≤ 512 := by omega
      go_wp2_with fail
      go_ret
      exact ⟨rfl, HW.out⟩
end Go.Proofs.YtnaapkoladiomaaGreatDoor.B
/- The document's moved at no lines: a copy; its soundHolds and soundDone of a new state. -/
namespace Go.Proofs.YtnaapkoladiomaaGreatDoor.B
open Go.RowKit

theorem rsum0 (s : ByteArray) (w : World) :
    Calls Tryz.prog 142 #[.slice none 0 0, .string s] w fun e w' => e = .returned (.int .i64 0) ∧ w' = w := by
  go_enter Tryz.func142, Tryz.ntmps142
  go_wp2_with fail
  go_loopg [5] 0 (fun gf i wx => i = .int .i64 0 ∧ w = wx)
  case atStart => exact ⟨rfl, rfl⟩
  case round =>
    obtain ⟨rfl, rfl⟩ := hrel
    go_wp2_with fail
    go_ret
    exact ⟨rfl, rfl⟩

set_option maxRecDepth 100000 in
set_option maxHeartbeats 3200000 in
theorem rmoved0 (A : Option Addr) (n c : Nat) (ss : List ByteArray) (w : World) (hl : ss.length = n) (hn : n ≤ 512) (hr : Rd w 3 A n (lvCells ss)) :
    Calls Tryz.prog 120 #[.slice A n c, .slice none 0 0, .int .i64 0, .int .i64 0] w fun e w' => (∃ v, e = .returned v ∧ w'.ownsRow w.heap.size 80 3 v n (lvCells ss)) ∧ Below w.heap.size w w' := by
  obtain ⟨i0, hi0, hz0, hz1, hz2⟩ := info_parts infoLevel
  have HL := hide hl
  have HR := hide hr
  clear hl hr
  go_enter Tryz.func120, Tryz.ntmps120
  go_wp2_with fail
  go_loopg [9, 10] n (fun gf u i wr => ∃ (k : Nat) (v : Value), v = u ∧ n ≤ k + gf ∧ k ≤ n ∧ i = .int .i64 k ∧ wr.ownsRow w.heap.size 80 3 v k (lvCells (ss.take k)) ∧ Below w.heap.size w wr)
  case atStart => exact ⟨0, _, rfl, by omega, by omega, rfl, by simpa [lvCells] using own_nil _ _ _ _, Below.refl _ _⟩
  case round =>
    obtain ⟨k, v, rfl, hg, hk, rfl, hv, hlow⟩ := hrel
    have HV := hide hv
    have HW := hide hlow
    by_cases hlt : k < n
    · obtain ⟨b, hb⟩ : ∃ b, ss[k]? = some b := ⟨ss[k]'(by rw [HL.out]; exact hlt), List.getElem?_eq_getElem _⟩
      obtain ⟨g1, g2, g3⟩ := lv_get ss k hb
      obtain ⟨ad, rfl, hc⟩ := (HR.out.below hlow).cells (by omega)
      have q1 := hc _ _ g1
      have q2 := hc _ _ g2
      have q3 := hc _ _ g3
      rw [add_next ad (k * 3) (by omega)] at q2 q3
      have j0 : (0 : Int) ≤ (k : Int) := by omega
      have w00 : IntKind.i64.wrap 0 = 0 := IntWalk.i64_in _ (by omega)
      have i1 : (k : Int) < (n : Int) := by omega
      have hsz := hlow.size
      have hvA : ∀ o : Obj, (wr.alloc o).drew.ownsRow w.heap.size 80 3 v k (lvCells (ss.take k)) := fun o => own_below hv (bD (bA (Below.refl _ _) o))
      have HS := hide hb
      clear g1 g2 g3 hb hc hv hlow
      go_wp2_with fail
      refine (rsum0 b _).mono ?_
      rintro e w1 ⟨rfl, rfl⟩
      go_wp2_with fail
      go_region_law
        ((refine step_append_lies _ (by rfl) _ _ _ (by rfl) w.heap.size 80 i0 _ 3 32 Tryz.underlying25 hi0 hz0 hz1 hz2 rfl (by omega) v k (lvCells (ss.take k)) (by rfl) (hvA _)
            ⟨w1.heap.size, 0, none⟩ 1 1 [.string b, .int .i64 0, .int .i64 0] (by rfl) (by rfl) (World.news_of_block (cs := #[.string b, .int .i64 0, .int .i64 0]) (t := 80) (fr := (0, 0)) (heap_alloc_new w1 _)) (by simp [Value.oneCell'])
            (by omega) (by simp only [maxLen]; omega) (by omega) (by simp; omega) (w1.heap.size + 1) (by simp) ?_; intro g' cap w2 hown1 hgrow hat hlt'))
      all_goals go_wp2_with fail
      all_goals go_roundg (gk - 1)
      all_goals first
        | omega
        | (have hlw := bG (bD (bA HW.out (.cells #[.string b, .int .i64 0, .int .i64 0] 80))) (hvA _) (Nat.le_refl _) hgrow
           refine ⟨k + 1, _, rfl, by omega, by omega, by go_num, ?_, hlw⟩
           rw [take_snoc HS.out, lvCells_snoc]
           exact hown1)
    · obtain rfl : k = n := by omega
      rw [List.take_of_length_le (by rw [HL.out]; omega)] at hv
      have HV := hide hv
      clear hv hlow
      go_wp2_with fail
      go_ret
      exact ⟨⟨_, rfl, HV.out⟩, HW.out⟩
end Go.Proofs.YtnaapkoladiomaaGreatDoor.B
/- The document's soundHolds, soundDone and Sound of a new state. -/
namespace Go.Proofs.YtnaapkoladiomaaGreatDoor.B
open Go.RowKit

set_option maxRecDepth 100000 in
set_option maxHeartbeats 3200000 in
theorem rsoundHolds0 (room lsn now : Int) (A : Option Addr) (n c : Nat) (ss : List ByteArray) (w : World) (hl : ss.length = n) (hn : n ≤ 512) (hr : Rd w 3 A n (lvCells ss)) :
    Calls Tryz.prog 94 #[stV room lsn now A n c] w fun e w' => e = .returned (.bool true) ∧ Below w.heap.size w w' := by
  have HL := hide hl
  have HB0 := hide (bA (Below.refl w.heap.size w) (.cells (stC room lsn now A n c) 29))
  have HS0 := hide (Blk.new1 (w := w) rfl 29 (stC room lsn now A n c))
  have HR := hide (hr.below HB0.out)
  clear hl hr
  go_enter Tryz.func94, Tryz.ntmps94
  go_wp2_with fail
  refine (rmoved0 A n c ss _ HL.out hn HR.out).mono ?_
  rintro e w1 ⟨⟨v, rfl, hv⟩, hb⟩
  obtain ⟨A1, c1, rfl, hc1⟩ := own_slice hv
  have HR1 := hide (Rd.of_own hv)
  have HB1 := hide (bT HB0.out hb)
  have HS1 := hide (HS0.out.below hb)
  have s4 : w1.cell? ⟨w.heap.size, 4, none⟩ = some (.slice none 0 0) := HS1.out.cell 4
  clear hv hb
  go_wp2_with fail
  go_loopg [4] 0 (fun gf i wx => i = .int .i64 0 ∧ w1 = wx)
  case atStart => exact ⟨rfl, rfl⟩
  case round =>
    obtain ⟨rfl, rfl⟩ := hrel
    go_wp2_with fail
    go_loopg [8] n (fun gf i wx => ∃ k : Nat, n ≤ k + gf ∧ k ≤ n ∧ i = .int .i64 (k : Int) ∧ w1 = wx)
    case atStart => exact ⟨0, by omega, by omega, rfl, rfl⟩
    case round =>
      obtain ⟨k, hg, hk, rfl, rfl⟩ := hrel
      by_cases hlt : k < n
      · obtain ⟨b, hb⟩ : ∃ b, ss[k]? = some b := ⟨ss[k]'(by rw [HL.out]; exact hlt), List.getElem?_eq_getElem _⟩
        obtain ⟨g1, g2, g3⟩ := lv_get ss k hb
        obtain ⟨ad, rfl, hc⟩ := HR1.out.cells (by omega)
        have q3 := hc _ _ g3
        rw [add_next ad (k * 3) (by omega)] at q3
        clear hc g1 g2 g3 hb
        go_wp2_with fail
        go_roundg (gk - 1)
        case measure => omega
        case rel => exact ⟨k + 1, by omega, by omega, by go_num, rfl⟩
      · obtain rfl : k = n := by omega
        go_wp2_with fail
        go_ret
        exact ⟨rfl, HB1.out⟩

set_option maxRecDepth 100000 in
set_option maxHeartbeats 3200000 in
theorem rsoundDone0 (room lsn now : Int) (A : Option Addr) (n c : Nat) (w : World) (hls : 0 ≤ lsn) :
    Calls Tryz.prog 95 #[stV room lsn now A n c] w fun e w' => e = .returned (.bool true) ∧ Below w.heap.size w w' := by
  have HB0 := hide (bA (Below.refl w.heap.size w) (.cells (stC room lsn now A n c) 29))
  have HS0 := hide (Blk.new1 (w := w) rfl 29 (stC room lsn now A n c))
  go_enter Tryz.func95, Tryz.ntmps95
  go_wp2_with fail
  generalize hW : w.alloc (.cells (stC room lsn now A n c) 29) = W at *
  have s5 : W.cell? ⟨w.heap.size, 5, none⟩ = some (.slice none 0 0) := HS0.out.cell 5
  go_loopg [3] 0 (fun gf i wx => i = .int .i64 0 ∧ W = wx)
  case atStart => exact ⟨rfl, rfl⟩
  case round =>
    obtain ⟨rfl, rfl⟩ := hrel
    go_wp2_with fail
    go_ret
    exact ⟨rfl, HB0.out⟩

theorem rweight0 (room lsn now : Int) (A : Option Addr) (n c : Nat) (ss : List ByteArray) (w : World) (hl : ss.length = n) (hn : n ≤ 512) (hs : ∀ s ∈ ss, s.size ≤ 40) (hr : Rd w 3 A n (lvCells ss)) :
    Calls Tryz.prog 78 #[stV room lsn now A n c] w fun e w' => e = .returned (.int .i64 (wt0 ss : Nat)) ∧ Below w.heap.size w w' := by
  have h := rweight_any room lsn now A n c (ss.map fun s => (s, 0, 0)) w (by simp [hl]) hn (by simpa using hs) (by rw [← lvCells_eq]; exact hr)
  rw [show (ss.map fun s => ((s, 0, 0) : ByteArray × Int × Int)).map (·.1) = ss by rw [List.map_map]; exact List.map_id' ss] at h
  exact h

set_option maxRecDepth 100000 in
set_option maxHeartbeats 3200000 in
theorem rsound0 (room lsn now : Int) (A : Option Addr) (n c : Nat) (ss : List ByteArray) (w : World) (hl : ss.length = n) (h1 : 1 ≤ n) (h2 : n ≤ 512) (hro : 0 ≤ room ∧ room ≤ 131072) (hls : 0 ≤ lsn ∧ lsn ≤ 4611686018427387904) (hno : 0 ≤ now ∧ now ≤ 549755813888)
    (hok : ss.all (okText · 40) = true) (hri : rise ss = true) (hwt : (wt0 ss : Int) ≤ room) (hr : Rd w 3 A n (lvCells ss)) :
    Calls Tryz.prog 62 #[stV room lsn now A n c] w fun e w' => e = .returned (.bool true) ∧ Below w.heap.size w w' := by
  have HL := hide hl
  have HO := hide hok
  have HRi := hide hri
  have HR := hide hr
  have HZ := hide (show ∀ s ∈ ss, s.size ≤ 40 from fun s hs => size_of_ok (List.all_eq_true.1 hok s hs))
  have HB0 := hide (bA (Below.refl w.heap.size w) (.cells (stC room lsn now A n c) 29))
  have HS0 := hide (Blk.new1 (w := w) rfl 29 (stC room lsn now A n c))
  obtain ⟨r1, r2⟩ := hro
  obtain ⟨l1, l2⟩ := hls
  obtain ⟨n1, n2⟩ := hno
  clear hl hok hri hr
  go_enter Tryz.func62, Tryz.ntmps62
  go_wp2_with fail
  refine (rsoundLevels0 A n c ss _ HL.out h1 h2 HO.out HRi.out (HR.out.below HB0.out)).mono ?_
  rintro e W ⟨rfl, hb⟩
  have HB := hide (bT HB0.out hb)
  have HS := hide (HS0.out.below hb)
  clear hb HB0 HS0
  have c0 : W.cell? ⟨w.heap.size, 0, none⟩ = some (.int .i64 room) := HS.out.cell 0
  have c1 : W.cell? ⟨w.heap.size, 1, none⟩ = some (.int .i64 lsn) := HS.out.cell 1
  have c2 : W.cell? ⟨w.heap.size, 2, none⟩ = some (.int .i64 now) := HS.out.cell 2
  have c3 : W.cell? ⟨w.heap.size, 3, none⟩ = some (.slice A n c) := HS.out.cell 3
  have c4 : W.cell? ⟨w.heap.size, 4, none⟩ = some (.slice none 0 0) := HS.out.cell 4
  have c5 : W.cell? ⟨w.heap.size, 5, none⟩ = some (.slice none 0 0) := HS.out.cell 5
  have hbl : Below w.heap.size w W := HB.out
  have kd : decide (room < (wt0 ss : Int)) = false := decide_eq_false (by omega)
  go_wp2_with fail
  go_region_held3 (fun w' => w'.cell? ⟨w.heap.size, 0, none⟩ = some (.int .i64 room) ∧ w'.cell? ⟨w.heap.size, 1, none⟩ = some (.int .i64 lsn) ∧ w'.cell? ⟨w.heap.size, 2, none⟩ = some (.int .i64 now) ∧ w'.cell? ⟨w.heap.size, 3, none⟩ = some (.slice A n c) ∧ w'.cell? ⟨w.heap.size, 4, none⟩ = some (.slice none 0 0) ∧ w'.cell? ⟨w.heap.size, 5, none⟩ = some (.slice none 0 0) ∧ Below w.heap.size w w')
    (first
      | (go_split_ands; refine ⟨bget (by assumption) (by assumption), bget (by assumption) (by assumption), bget (by assumption) (by assumption), bget (by assumption) (by assumption), bget (by assumption) (by assumption), bget (by assumption) (by assumption), bT (by assumption) (by assumption)⟩)
      | (refine ⟨by go_keep, by go_keep, by go_keep, by go_keep, by go_keep, by go_keep, bD HB.out⟩))
    (first
      | (go_at_call 94; refine (rsoundHolds0 room lsn now A n c ss _ HL.out h2 (HR.out.below (by go_split_ands; assumption))).mono ?_; rintro e w2 ⟨rfl, hb2⟩)
      | (go_at_call 78; refine (rweight0 room lsn now A n c ss _ HL.out h2 HZ.out (HR.out.below (by go_split_ands; assumption))).mono ?_; rintro e w4 ⟨rfl, hb4⟩))
  rename_i hHeld
  have hb : Below w.heap.size w w2 := hHeld.2.2.2.2.2.2
  have HB2 := hide hb
  have d0 : w2.cell? ⟨w.heap.size, 0, none⟩ = some (.int .i64 room) := hHeld.1
  have d1 : w2.cell? ⟨w.heap.size, 1, none⟩ = some (.int .i64 lsn) := hHeld.2.1
  have d2 : w2.cell? ⟨w.heap.size, 2, none⟩ = some (.int .i64 now) := hHeld.2.2.1
  have d3 : w2.cell? ⟨w.heap.size, 3, none⟩ = some (.slice A n c) := hHeld.2.2.2.1
  have d4 : w2.cell? ⟨w.heap.size, 4, none⟩ = some (.slice none 0 0) := hHeld.2.2.2.2.1
  have d5 : w2.cell? ⟨w.heap.size, 5, none⟩ = some (.slice none 0 0) := hHeld.2.2.2.2.2.1
  clear hHeld hb c0 c1 c2 c3 c4 c5 hbl
  go_wp2_with fail
  refine (rsoundDone0 room lsn now A n c _ l1).mono ?_
  rintro e w3 ⟨rfl, hb3⟩
  have HB3 := hide (bT HB2.out hb3)
  clear hb3
  go_wp2_with fail
  go_ret
  exact ⟨rfl, HB3.out⟩
end Go.Proofs.YtnaapkoladiomaaGreatDoor.B
/- The document's Fits of a new state: true. -/
namespace Go.Proofs.YtnaapkoladiomaaGreatDoor.B
open Go.RowKit

set_option maxRecDepth 100000 in
set_option maxHeartbeats 6400000 in
theorem rfits0 (A A1 : Option Addr) (n c c1 : Nat) (st hd se sl : Int) (ss : List ByteArray) (w : World) (hl : ss.length = n) (hn1 : 1 ≤ n) (hn : n ≤ 512) (hro : 0 ≤ roomOf sl ∧ roomOf sl ≤ 131072)
    (hok : ss.all (okText · 40) = true) (hri : rise ss = true) (hwt : (wt0 ss : Int) ≤ roomOf sl) (hr : Rd w 1 A n (strs ss)) (hr3 : Rd w 3 A1 n (lvCells ss)) :
    Calls Tryz.prog 28 #[cfgV A n c st hd se sl, stV (roomOf sl) 0 0 A1 n c1] w fun e w' => e = .returned (.bool true) ∧ Below w.heap.size w w' := by
  have HL := hide hl
  have HO := hide hok
  have HRi := hide hri
  have HW := hide hwt
  have HX := hide hro
  have HB := hide (bA (bA (Below.refl w.heap.size w) (.cells (cfgC A n c st hd se sl) 24)) (.cells (stC (roomOf sl) 0 0 A1 n c1) 29))
  have HR := hide (hr.below HB.out)
  have HR3 := hide (hr3.below HB.out)
  have hb1 := Blk.new1 (w := w) rfl 24 (cfgC A n c st hd se sl)
  have HC := hide (hb1.alloc (.cells (stC (roomOf sl) 0 0 A1 n c1) 29))
  have HS := hide (Blk.new1 (w := w.alloc (.cells (cfgC A n c st hd se sl) 24)) (g := w.heap.size + 1) (by simp) 29 (stC (roomOf sl) 0 0 A1 n c1))
  clear hl hok hri hwt hro hr hr3 hb1
  go_enter Tryz.func28, Tryz.ntmps28
  go_wp2_with fail
  generalize hW : (w.alloc (.cells (cfgC A n c st hd se sl) 24)).alloc (.cells (stC (roomOf sl) 0 0 A1 n c1) 29) = W0 at *
  have c0 : W0.cell? ⟨w.heap.size, 0, none⟩ = some (.slice A n c) := HC.out.cell 0
  have c1_ : W0.cell? ⟨w.heap.size, 1, none⟩ = some (.int .i64 st) := HC.out.cell 1
  have c2 : W0.cell? ⟨w.heap.size, 2, none⟩ = some (.int .i64 hd) := HC.out.cell 2
  have c3 : W0.cell? ⟨w.heap.size, 3, none⟩ = some (.int .i64 se) := HC.out.cell 3
  have c4 : W0.cell? ⟨w.heap.size, 4, none⟩ = some (.int .i64 sl) := HC.out.cell 4
  have s0 : W0.cell? ⟨w.heap.size + 1, 0, none⟩ = some (.int .i64 (roomOf sl)) := HS.out.cell 0
  have s1 : W0.cell? ⟨w.heap.size + 1, 1, none⟩ = some (.int .i64 0) := HS.out.cell 1
  have s2 : W0.cell? ⟨w.heap.size + 1, 2, none⟩ = some (.int .i64 0) := HS.out.cell 2
  have s3 : W0.cell? ⟨w.heap.size + 1, 3, none⟩ = some (.slice A1 n c1) := HS.out.cell 3
  have s4 : W0.cell? ⟨w.heap.size + 1, 4, none⟩ = some (.slice none 0 0) := HS.out.cell 4
  have s5 : W0.cell? ⟨w.heap.size + 1, 5, none⟩ = some (.slice none 0 0) := HS.out.cell 5
  have lW : w.heap.size + 1 < W0.heap.size := HS.out.lt
  clear hW HC HS
  go_region_held3 (fun w' => w'.cell? ⟨w.heap.size, 0, none⟩ = some (.slice A n c) ∧ w'.cell? ⟨w.heap.size, 1, none⟩ = some (.int .i64 st) ∧ w'.cell? ⟨w.heap.size, 2, none⟩ = some (.int .i64 hd) ∧ w'.cell? ⟨w.heap.size, 3, none⟩ = some (.int .i64 se) ∧ w'.cell? ⟨w.heap.size, 4, none⟩ = some (.int .i64 sl) ∧ w'.cell? ⟨w.heap.size + 1, 0, none⟩ = some (.int .i64 (roomOf sl)) ∧ w'.cell? ⟨w.heap.size + 1, 1, none⟩ = some (.int .i64 0) ∧ w'.cell? ⟨w.heap.size + 1, 2, none⟩ = some (.int .i64 0) ∧ w'.cell? ⟨w.heap.size + 1, 3, none⟩ = some (.slice A1 n c1) ∧ w'.cell? ⟨w.heap.size + 1, 4, none⟩ = some (.slice none 0 0) ∧ w'.cell? ⟨w.heap.size + 1, 5, none⟩ = some (.slice none 0 0) ∧ Below W0.heap.size W0 w')
    (first
      | (go_split_ands; refine ⟨bget (by assumption) (by assumption), bget (by assumption) (by assumption), bget (by assumption) (by assumption), bget (by assumption) (by assumption), bget (by assumption) (by assumption), bget (by assumption) (by assumption), bget (by assumption) (by assumption), bget (by assumption) (by assumption), bget (by assumption) (by assumption), bget (by assumption) (by assumption), bget (by assumption) (by assumption), bT (by assumption) (by assumption)⟩)
      | (refine ⟨by go_keep, by go_keep, by go_keep, by go_keep, by go_keep, by go_keep, by go_keep, by go_keep, by go_keep, by go_keep, by go_keep, bD (Below.refl _ _)⟩)
      | (go_split_ands; refine ⟨by go_keep, by go_keep, by go_keep, by go_keep, by go_keep, by go_keep, by go_keep, by go_keep, by go_keep, by go_keep, by go_keep, bA (by assumption) _⟩))
    (first
      | (go_at_call 16; refine (rroom13_any A n c st hd se sl _).mono ?_; rintro e w3 ⟨rfl, rfl⟩)
      | (go_at_call 62; refine (rsound0 (roomOf sl) 0 0 A1 n c1 ss _ HL.out hn1 hn HX.out (by decide) (by decide) HO.out HRi.out HW.out (HR3.out.below (by go_split_ands; assumption))).mono ?_; rintro e w2 ⟨rfl, hb2⟩))
  rename_i hHeld
  have HLow := hide (bT HB.out hHeld.2.2.2.2.2.2.2.2.2.2.2)
  have HRa := hide (HR.out.below hHeld.2.2.2.2.2.2.2.2.2.2.2)
  have HRb := hide (HR3.out.below hHeld.2.2.2.2.2.2.2.2.2.2.2)
  obtain ⟨d0, -, -, -, -, -, -, -, e3, -⟩ := hHeld
  generalize w2.alloc (.cells (cfgC A n c st hd se sl) 24) = W2 at *
  clear c0 c1_ c2 c3 c4 s0 s1 s2 s3 s4 s5 HB HR HR3 hb2
  go_wp2_with fail
  go_loopg [5] n (fun gf i wx => ∃ k : Nat, n ≤ k + gf ∧ k ≤ n ∧ i = .int .i64 (k : Int) ∧ Below W2.heap.size W2 wx)
  case atStart => exact ⟨0, by omega, by omega, rfl, Below.refl _ _⟩
  case round =>
    obtain ⟨k, hg, hk, rfl, hlow⟩ := hrel
    have x0 := bget hlow d0
    have x3 := bget hlow e3
    by_cases hlt : k < n
    · obtain ⟨s, hs⟩ : ∃ s, ss[k]? = some s := ⟨ss[k]'(by rw [HL.out]; exact hlt), List.getElem?_eq_getElem _⟩
      obtain ⟨g1, g2, g3⟩ := lv_get ss k hs
      obtain ⟨ad, rfl, hc⟩ := (HRb.out.below hlow).cells (by omega)
      have q1 := hc _ _ g1
      obtain ⟨ad2, rfl, hc2⟩ := (HRa.out.below hlow).at_ (k := k) (x := .string s) (by rw [strs_get, hs]; rfl)
      have HLo := hide hlow
      have ki0 : (0 : Int) ≤ (k : Int) := by omega
      have ki1 : (k : Int) < (n : Int) := by omega
      clear hc g1 g2 g3 hs hlow d0 e3
      go_wp2_with fail
      go_quiet (fail)
      go_wp2_with fail
      go_roundg (gk - 1)
      case measure => omega
      case rel => exact ⟨k + 1, by omega, by omega, by go_num, bN HLo.out _⟩
    · obtain rfl : k = n := by omega
      have HLo := hide (bT HLow.out hlow)
      clear hlow
      go_wp2_with fail
      go_ret
      exact ⟨rfl, HLo.out⟩
end Go.Proofs.YtnaapkoladiomaaGreatDoor.B
