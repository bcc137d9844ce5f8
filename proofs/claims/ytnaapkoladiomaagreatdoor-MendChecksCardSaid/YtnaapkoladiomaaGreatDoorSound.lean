/- stock.Sound of a new ledger's state: true. -/
import Derived.Test.YtnaapkoladiomaaGreatDoorRefWeight
import Derived.Test.YtnaapkoladiomaaGreatDoorNew
import Derived.Deep.AppendLies
import Derived.Maps.RangeWalk
import Derived.Maps.OwnOps
import Derived.Deep.RegionHeld3
namespace Go.Proofs.YtnaapkoladiomaaGreatDoor.B
open Go.RowKit

theorem lv_get (ss : List ByteArray) (k : Nat) {s : ByteArray} (h : ss[k]? = some s) : (lvCells ss)[k * 3]? = some (.string s) ∧ (lvCells ss)[k * 3 + 1]? = some (.int .i64 0) ∧ (lvCells ss)[k * 3 + 2]? = some (.int .i64 0) := by
  rw [lvCells_eq]
  exact lvC_get (ss.map fun s => (s, 0, 0)) k (x := (s, 0, 0)) (by rw [List.getElem?_map, h]; rfl)

theorem add_next (a : Addr) (j : Nat) {i : Nat} (h : 0 < i) : a.add (j + i) = ⟨(a.add j).block, (a.add j).off + i, none⟩ := by
  rw [add_pos a (by omega), block_add]
  congr 1
  unfold Addr.add
  split
  · omega
  · simp only; omega

set_option maxRecDepth 100000 in
set_option maxHeartbeats 2000000 in
theorem soundLevels0 (room lsn now : Int) (A : Option Addr) (n c : Nat) (ss : List ByteArray) (w : World) (hl : ss.length = n) (h1 : 1 ≤ n) (h2 : n ≤ 512) (hok : ss.all (okText · 40) = true) (hri : rise ss = true) (hr : Rd w 3 A n (lvCells ss)) :
    Calls Tryz.prog 79 #[stV room lsn now A n c] w fun e w' => e = .returned (.bool true) ∧ Below w.heap.size w w' := by
  have HL := hide hl
  have HO := hide hok
  have HRi := hide hri
  have HR := hide hr
  clear hl hok hri hr
  obtain ⟨i0, hi0, hz0, hz1, hz2⟩ := info_parts info_str
  go_enter Tryz.func79, Tryz.ntmps79
  go_wp2_with fail
  go_loopg [3, 19] n (fun gf u i wr => ∃ (k : Nat) (v : Value), v = u ∧ n ≤ k + gf ∧ k ≤ n ∧ i = .int .i64 k ∧ wr.ownsRow (w.heap.size + 1) 9 1 v k (strs (ss.take k)) ∧ Below w.heap.size w wr ∧ w.heap.size < wr.heap.size)
  case atStart => exact ⟨0, _, rfl, by omega, by omega, rfl, own_nil _ _ _ _, bA (Below.refl _ _) _, by simp⟩
  case round =>
    obtain ⟨k, v, rfl, hg, hk, rfl, hv, hlow, hwz⟩ := hrel
    by_cases hlt : k < n
    · obtain ⟨s, hs⟩ : ∃ s, ss[k]? = some s := ⟨ss[k]'(by rw [HL.out]; exact hlt), List.getElem?_eq_getElem _⟩
      obtain ⟨g1, g2, g3⟩ := lv_get ss k hs
      obtain ⟨ad, rfl, hc⟩ := (HR.out.below hlow).cells (by omega)
      have q1 := hc _ _ g1
      have q2 := hc _ _ g2
      have q3 := hc _ _ g3
      rw [add_next ad (k * 3) (by omega)] at q2 q3
      have HOk := hide (List.all_eq_true.1 HO.out s (List.mem_of_getElem? hs))
      have HS := hide hs
      have HV := hide hv
      have HLow := hide hlow
      clear hc g1 g2 g3 hs hv hlow
      go_wp2_with fail
      refine (isCode_any s _).mono ?_
      rintro e w1 ⟨rfl, hb⟩
      rw [HOk.out]
      have HB := hide (Blk.below (g := wr.heap.size) (t := 80) (cs := #[.string s, .int .i64 0, .int .i64 0]) (Blk.new1 rfl _ _) hb)
      have HB1 := hide (bT (bA (Below.refl wr.heap.size wr) _) hb)
      clear hb
      have c0 : w1.cell? ⟨wr.heap.size, 0, none⟩ = some (.string s) := HB.out.cell 0
      have c1 : w1.cell? ⟨wr.heap.size, 1, none⟩ = some (.int .i64 0) := HB.out.cell 1
      have c2 : w1.cell? ⟨wr.heap.size, 2, none⟩ = some (.int .i64 0) := HB.out.cell 2
      have hown1 := own_below HV.out HB1.out
      have hsz1 := HB1.out.size
      have hvA : ∀ o : Obj, (w1.alloc o).ownsRow (w.heap.size + 1) 9 1 v k (strs (ss.take k)) := fun o => own_below hown1 (bA (Below.refl _ _) o)
      have HO1 := hide hown1
      clear hown1
      go_wp2_with (at_builtin; refine wpList_append_lies _ rfl _ _ _ rfl (w.heap.size + 1) 9 i0 _ 1 16 Tryz.underlying22 hi0 hz0 hz1 hz2 rfl (by omega) v k (strs (ss.take k)) rfl (hvA _) ⟨w1.heap.size, 0, none⟩ 1 1 [.string s] rfl rfl (World.news_of_block (cs := #[.string s]) (t := 9) (fr := (0, 0)) (heap_alloc_new w1 _)) (by simp [Value.oneCell']) (by omega) (by simp only [maxLen]; omega) (by omega) (by simp; omega) (w1.heap.size + 1) (by simp) ?_; intro g' cap w2 hown2 hgrow hat hlt')
      go_roundg (gk - 1)
      case measure => omega
      case rel =>
        have hlw := bG (bA (bT HLow.out HB1.out) _) (hvA _) (by omega) hgrow
        have := hgrow.size
        refine ⟨k + 1, _, rfl, by omega, by omega, by go_num, ?_, hlw, by simp at this; omega⟩
        rw [take_snoc HS.out]
        simpa [strs] using hown2
    · obtain rfl : k = n := by omega
      obtain ⟨A1, c1, rfl, hc1⟩ := own_slice hv
      rw [List.take_of_length_le (by rw [HL.out]; omega)] at hv
      have HV := hide hv
      have HLow := hide hlow
      clear hv hlow
      go_wp2_with fail
      refine (rising_any A1 k c1 ss _ HL.out (by omega) (Rd.of_own HV.out)).mono ?_
      rintro e w1 ⟨rfl, m, rfl⟩
      rw [HRi.out]
      go_wp2_with fail
      go_ret
      exact ⟨rfl, bN HLow.out m⟩

set_option maxRecDepth 100000 in
set_option maxHeartbeats 2000000 in
theorem weight0 (room lsn now : Int) (A : Option Addr) (n c : Nat) (ss : List ByteArray) (w : World) (hl : ss.length = n) (h2 : n ≤ 512) (hs40 : ∀ s ∈ ss, s.size ≤ 40) (hr : Rd w 3 A n (lvCells ss)) :
    Calls Tryz.prog 82 #[stV room lsn now A n c] w fun e w' => e = .returned (.int .i64 (wt0 ss : Nat)) ∧ Below w.heap.size w w' := by
  have HL := hide hl
  have HZ := hide hs40
  have HR := hide hr
  clear hl hs40 hr
  go_enter Tryz.func82, Tryz.ntmps82
  go_wp2_with fail
  go_loopg [3, 13] n (fun gf m i wr => ∃ k : Nat, n ≤ k + gf ∧ k ≤ n ∧ i = .int .i64 k ∧ m = .int .i64 (wt0 (ss.take k) : Nat) ∧ Blk wr w.heap.size 29 (stC room lsn now A n c) ∧ Below w.heap.size w wr)
  case atStart => exact ⟨0, by omega, by omega, rfl, by simp [wt0], Blk.new1 rfl _ _, bA (Below.refl _ _) _⟩
  case round =>
    obtain ⟨k, hg, hk, rfl, rfl, hB, hlow⟩ := hrel
    by_cases hlt : k < n
    · obtain ⟨s, hs⟩ : ∃ s, ss[k]? = some s := ⟨ss[k]'(by rw [HL.out]; exact hlt), List.getElem?_eq_getElem _⟩
      obtain ⟨g1, g2, g3⟩ := lv_get ss k hs
      obtain ⟨ad, rfl, hc⟩ := (HR.out.below hlow).cells (by omega)
      have q1 := hc _ _ g1
      have q2 := hc _ _ g2
      have q3 := hc _ _ g3
      rw [add_next ad (k * 3) (by omega)] at q2 q3
      have hsz := HZ.out s (List.mem_of_getElem? hs)
      have hwt : wt0 (ss.take k) ≤ 40000 := by
        have h1 := wt0_le (ss.take k) (fun y hy => HZ.out y (List.mem_of_mem_take hy))
        have h2 : (ss.take k).length ≤ k := List.length_take_le _ _
        omega
      have HN := hide (show wt0 (ss.take (k + 1)) = wt0 (ss.take k) + (21 + s.size) by rw [take_snoc hs, wt0_snoc])
      have HBk := hide hB
      have HLow := hide hlow
      clear hc g1 g2 g3 hs hB hlow
      generalize wt0 (ss.take k) = wt at *
      go_wp2_with fail
      go_roundg (gk - 1)
      case measure => omega
      case rel => exact ⟨k + 1, by omega, by omega, by go_num, by rw [HN.out]; go_num, HBk.out.alloc _, bA HLow.out _⟩
    · obtain rfl : k = n := by omega
      have ht : ss.take k = ss := List.take_of_length_le (by rw [HL.out]; omega)
      rw [ht]
      have b4 : wr.cell? ⟨w.heap.size, 4, none⟩ = some (.slice none 0 0) := hB.cell 4
      have b5 : wr.cell? ⟨w.heap.size, 5, none⟩ = some (.slice none 0 0) := hB.cell 5
      have HLow := hide hlow
      clear hB hlow
      obtain ⟨W, rfl⟩ : ∃ W, W = wr := ⟨_, rfl⟩
      go_wp2_with fail
      go_loopg [3, 27] 0 (fun gf m i V => i = .int .i64 0 ∧ m = .int .i64 (wt0 ss : Nat) ∧ W = V)
      case atStart => exact ⟨rfl, rfl, rfl⟩
      case round =>
        obtain ⟨rfl, rfl, rfl⟩ := hrel
        go_wp2_with fail
        go_loopg [3, 39] 0 (fun gf m i V => i = .int .i64 0 ∧ m = .int .i64 (wt0 ss : Nat) ∧ W = V)
        case atStart => exact ⟨rfl, rfl, rfl⟩
        case round =>
          obtain ⟨rfl, rfl, rfl⟩ := hrel
          go_wp2_with fail
          go_ret
          exact ⟨rfl, HLow.out⟩

/-- How a nought is read: nothing else is. -/
def R0 : Value → Option (DataW Unit × List MemPlace)
  | .int .i64 0 => some (.lit (.int .i64 0), [])
  | _ => none
theorem R0_inv (v : Value) (y : DataW Unit × List MemPlace) (h : R0 v = some y) : ∃ _c : Unit, v = .int .i64 0 := by
  unfold R0 at h
  split at h
  · exact ⟨(), rfl⟩
  · cases h
theorem lawS : Maps.Keyed Tryz.prog 9 := Maps.string_keyed Tryz.underlying9
theorem keyInv (key : Value) (kl : Lit) (h : keyOf Tryz.prog 9 key = some kl) : ∃ x : ByteArray, key = .string x := by
  cases key <;> simp [keyOf, mapKey, Tryz.underlying9] at h
  exact ⟨_, rfl⟩

set_option maxRecDepth 100000 in
set_option maxHeartbeats 3200000 in
theorem soundHolds0 (room lsn now : Int) (A : Option Addr) (n c : Nat) (ss : List ByteArray) (w : World) (hl : ss.length = n) (h2 : n ≤ 512) (hs40 : ∀ s ∈ ss, s.size ≤ 40) (hr : Rd w 3 A n (lvCells ss)) :
    Calls Tryz.prog 80 #[stV room lsn now A n c] w fun e w' => e = .returned (.bool true) ∧ Below w.heap.size w w' := by
  have hmm := @run_makeMap Tryz.prog
  have HL := hide hl
  have HZ := hide hs40
  have HR := hide hr
  clear hl hs40 hr
  go_enter Tryz.func80, Tryz.ntmps80
  go_wp2_with fail
  go_loopg [24] n (fun gf i wr => ∃ (k : Nat) (D : DataW Unit), n ≤ k + gf ∧ k ≤ n ∧ i = .int .i64 k ∧ wr.ownsMap Tryz.prog 9 R0 (w.heap.size + 1) k D ∧ Blk wr w.heap.size 29 (stC room lsn now A n c) ∧ Below w.heap.size w wr)
  case atStart => exact ⟨0, .map [], by omega, by omega, rfl, by simpa using World.ownsMap_made (w.alloc (.cells (stC room lsn now A n c) 29)) Tryz.prog 9 R0, (Blk.new1 rfl _ _).alloc _, bA (bA (Below.refl _ _) _) _⟩
  case round =>
    obtain ⟨k, D, hg, hk, rfl, hM, hB, hlow⟩ := hrel
    by_cases hlt : k < n
    · obtain ⟨s, hs⟩ : ∃ s, ss[k]? = some s := ⟨ss[k]'(by rw [HL.out]; exact hlt), List.getElem?_eq_getElem _⟩
      obtain ⟨g1, g2, g3⟩ := lv_get ss k hs
      obtain ⟨ad, rfl, hc⟩ := (HR.out.below hlow).cells (by omega)
      have q1 := hc _ _ g1
      have q2 := hc _ _ g2
      have q3 := hc _ _ g3
      rw [add_next ad (k * 3) (by omega)] at q2 q3
      have hsz := HZ.out s (List.mem_of_getElem? hs)
      have HBk := hide hB
      have HLow := hide hlow
      have hszl := hlow.size
      have hMA : ∀ o : Obj, (wr.alloc o).ownsMap Tryz.prog 9 R0 (w.heap.size + 1) k D := fun o => hM.alloc o
      clear hc g1 g2 g3 hs hB hlow hM
      go_wp2_with (at_mapUpdate; refine wpList_mapUpdate_own _ rfl _ _ _ 160 rfl 9 3 lawS Tryz.underlying160 R0 (w.heap.size + 1) k D rfl (hMA _) (by simp only [maxLen]; omega) (.string s) (.int .i64 0) _ rfl rfl (WideMaps.keyOf_string_mk Tryz.underlying9 (by simp only [maxLen]; omega)) _ [] rfl ?_; intro w1 hown1 hgrow1)
      go_roundg (gk - 1)
      case measure => omega
      case rel => exact ⟨k + 1, _, by omega, by omega, by go_num, hown1, (HBk.out.alloc _).grown hgrow1 (by simp), (bA HLow.out _).grown hgrow1 (bA HLow.out _).size (fun q e => by cases e; omega)⟩
    · obtain rfl : k = n := by omega
      obtain ⟨W, rfl⟩ : ∃ W, W = wr := ⟨_, rfl⟩
      have b4 : W.cell? ⟨w.heap.size, 4, none⟩ = some (.slice none 0 0) := hB.cell 4
      have HLow := hide hlow
      have hszl := hlow.size
      clear hB hlow
      go_wp2_with fail
      go_loopg [6, 37] 0 (fun gf u i V => i = .int .i64 0 ∧ u = .slice none 0 0 ∧ W = V)
      case atStart => exact ⟨rfl, rfl, rfl⟩
      case round =>
        obtain ⟨rfl, rfl, rfl⟩ := hrel
        go_wp2_with (at_range; refine wpList_range_own _ rfl _ 160 rfl 9 3 lawS Tryz.underlying160 R0 (w.heap.size + 1) k D rfl hM ?_; intro w0 hrg0 hg0 hs0)
        go_frame
        go_loopg [] (Maps.size D) (fun gf V => ∃ left cnt, V.ranges Tryz.prog 9 R0 (w.heap.size + 1) W.heap.size k D left cnt ∧ cnt ≤ gf ∧ Below W.heap.size W V)
        case atStart => exact ⟨_, _, hrg0, Nat.le_refl _, (Below.refl W.heap.size W).grown hg0 (Nat.le_refl _) (fun q e => by cases e)⟩
        case round =>
          obtain ⟨left, cnt, hrg, hcnt, hbV⟩ := hrel
          have HbV := hide hbV
          have hszV := hbV.size
          clear hbV hM hrg0 hg0 hs0
          go_wp2_with (at_next; refine wpList_next_ranges _ rfl _ rfl 9 lawS R0 Value.string (fun _ : Unit => .int .i64 0) keyInv R0_inv (w.heap.size + 1) W.heap.size k D left cnt rfl hrg ?_ ?_)
          · intro hc0 hl0
            clear hrg
            go_wp2_with fail
            refine (rising_any none 0 0 [] _ rfl (by omega) (Rd.none_ _ _)).mono ?_
            rintro e w1 ⟨rfl, m, rfl⟩
            go_wp2_with fail
            go_ret
            exact ⟨rfl, bN (bT HLow.out HbV.out) m⟩
          · intro x c kl y w1 cnt1 hkey hlk hv hat hrg1 hlt1 hg1 hs1 hen
            have HH := hide (⟨hkey, hlk, hv, hat⟩ : _ ∧ _ ∧ _ ∧ _)
            clear hrg hkey hlk hv hat
            go_wp2_with fail
            go_roundg (gk - 1)
            case measure => omega
            case rel => exact ⟨_, cnt1, hrg1, by omega, HbV.out.grown hg1 hszV (fun q e => by cases e; omega)⟩

set_option maxRecDepth 100000 in
set_option maxHeartbeats 3200000 in
theorem soundDone0 (room lsn now : Int) (A : Option Addr) (n c : Nat) (ss : List ByteArray) (w : World) (hl : ss.length = n) (h2 : n ≤ 512) (hls : 0 ≤ lsn) (hs40 : ∀ s ∈ ss, s.size ≤ 40) (hr : Rd w 3 A n (lvCells ss)) :
    Calls Tryz.prog 81 #[stV room lsn now A n c] w fun e w' => e = .returned (.bool true) ∧ Below w.heap.size w w' := by
  have hmm := @run_makeMap Tryz.prog
  have HL := hide hl
  have HZ := hide hs40
  have HR := hide hr
  clear hl hs40 hr
  go_enter Tryz.func81, Tryz.ntmps81
  go_wp2_with fail
  go_loopg [30] n (fun gf i wr => ∃ (k : Nat) (D : DataW Unit), n ≤ k + gf ∧ k ≤ n ∧ i = .int .i64 k ∧ wr.ownsMap Tryz.prog 9 (plainElem Tryz.prog 3) (w.heap.size + 1) k D ∧ Blk wr w.heap.size 29 (stC room lsn now A n c) ∧ Below w.heap.size w wr)
  case atStart => exact ⟨0, .map [], by omega, by omega, rfl, by simpa using World.ownsMap_made (w.alloc (.cells (stC room lsn now A n c) 29)) Tryz.prog 9 (plainElem Tryz.prog 3), (Blk.new1 rfl _ _).alloc _, bA (bA (Below.refl _ _) _) _⟩
  case round =>
    obtain ⟨k, D, hg, hk, rfl, hM, hB, hlow⟩ := hrel
    by_cases hlt : k < n
    · obtain ⟨s, hs⟩ : ∃ s, ss[k]? = some s := ⟨ss[k]'(by rw [HL.out]; exact hlt), List.getElem?_eq_getElem _⟩
      obtain ⟨g1, g2, g3⟩ := lv_get ss k hs
      obtain ⟨ad, rfl, hc⟩ := (HR.out.below hlow).cells (by omega)
      have q1 := hc _ _ g1
      have q2 := hc _ _ g2
      have q3 := hc _ _ g3
      rw [add_next ad (k * 3) (by omega)] at q2 q3
      have hsz := HZ.out s (List.mem_of_getElem? hs)
      have HBk := hide hB
      have HLow := hide hlow
      have hszl := hlow.size
      have hMA : ∀ o : Obj, (wr.alloc o).ownsMap Tryz.prog 9 (plainElem Tryz.prog 3) (w.heap.size + 1) k D := fun o => hM.alloc o
      have hz : ∀ W : World, (zeroValue 3).run Tryz.prog W = .ok (.int .i64 0) W := Tryz.zeroValue3
      clear hc g1 g2 g3 hs hB hlow hM
      go_wp2_with (first | (at_mapUpdate; refine wpList_mapUpdate_own _ rfl _ _ _ 160 rfl 9 3 lawS Tryz.underlying160 (plainElem Tryz.prog 3) (w.heap.size + 1) k D rfl (hMA _) (by simp only [maxLen]; omega) (.string s) _ _ rfl rfl (WideMaps.keyOf_string_mk Tryz.underlying9 (by simp only [maxLen]; omega)) _ [] (plainElem_int Tryz.underlying3 (wrap64_wf _)) ?_; intro w1 hown1 hgrow1) | (at_lookup; refine wpList_lookup_own_int _ rfl _ _ 160 rfl 9 3 .i64 lawS Tryz.underlying160 Tryz.underlying3 (hz _) (w.heap.size + 1) k D rfl (hMA _) (.string s) _ rfl (WideMaps.keyOf_string_mk Tryz.underlying9 (by simp only [maxLen]; omega)) ?_; intro cc hat hwc))
      go_roundg (gk - 1)
      case measure => omega
      case rel => exact ⟨k + 1, _, by omega, by omega, by go_num, hown1, (HBk.out.alloc _).grown hgrow1 (by simp), (bA HLow.out _).grown hgrow1 (bA HLow.out _).size (fun q e => by cases e; omega)⟩
    · obtain rfl : k = n := by omega
      obtain ⟨W, rfl⟩ : ∃ W, W = wr := ⟨_, rfl⟩
      have b5 : W.cell? ⟨w.heap.size, 5, none⟩ = some (.slice none 0 0) := hB.cell 5
      have HLow := hide hlow
      clear hB hlow hM
      go_wp2_with fail
      go_loopg [6, 43] 0 (fun gf u i V => i = .int .i64 0 ∧ u = .slice none 0 0 ∧ W = V)
      case atStart => exact ⟨rfl, rfl, rfl⟩
      case round =>
        obtain ⟨rfl, rfl, rfl⟩ := hrel
        go_wp2_with fail
        refine (rising_any none 0 0 [] _ rfl (by omega) (Rd.none_ _ _)).mono ?_
        rintro e w1 ⟨rfl, m, rfl⟩
        go_wp2_with fail
        go_ret
        exact ⟨rfl, bN HLow.out m⟩

set_option maxRecDepth 100000 in
set_option maxHeartbeats 3200000 in
theorem sound0 (room lsn now : Int) (A : Option Addr) (n c : Nat) (ss : List ByteArray) (w : World) (hl : ss.length = n) (h1 : 1 ≤ n) (h2 : n ≤ 512) (hro : 0 ≤ room ∧ room ≤ 131072) (hls : 0 ≤ lsn ∧ lsn ≤ 4611686018427387904) (hno : 0 ≤ now ∧ now ≤ 549755813888)
    (hok : ss.all (okText · 40) = true) (hri : rise ss = true) (hwt : (wt0 ss : Int) ≤ room) (hr : Rd w 3 A n (lvCells ss)) :
    Calls Tryz.prog 45 #[stV room lsn now A n c] w fun e w' => e = .returned (.bool true) ∧ Below w.heap.size w w' := by
  have HL := hide hl
  have HO := hide hok
  have HRi := hide hri
  have HR := hide hr
  have HZ := hide (show ∀ s ∈ ss, s.size ≤ 40 from fun s hs => size_of_ok (List.all_eq_true.1 hok s hs))
  obtain ⟨r1, r2⟩ := hro
  obtain ⟨l1, l2⟩ := hls
  obtain ⟨n1, n2⟩ := hno
  clear hl hok hri hr
  go_enter Tryz.func45, Tryz.ntmps45
  go_wp2_with fail
  go_region_held3 (fun w' => w'.cell? ⟨w.heap.size, 0, none⟩ = some (.int .i64 room) ∧ w'.cell? ⟨w.heap.size, 1, none⟩ = some (.int .i64 lsn) ∧ w'.cell? ⟨w.heap.size, 2, none⟩ = some (.int .i64 now) ∧ w'.cell? ⟨w.heap.size, 3, none⟩ = some (.slice A n c) ∧ w'.cell? ⟨w.heap.size, 4, none⟩ = some (.slice none 0 0) ∧ w'.cell? ⟨w.heap.size, 5, none⟩ = some (.slice none 0 0) ∧ Below w.heap.size w w')
    (first
      | (go_split_ands; refine ⟨bget (by assumption) (by assumption), bget (by assumption) (by assumption), bget (by assumption) (by assumption), bget (by assumption) (by assumption), bget (by assumption) (by assumption), bget (by assumption) (by assumption), bT (by assumption) (by assumption)⟩)
      | (refine ⟨by go_keep, by go_keep, by go_keep, by go_keep, by go_keep, by go_keep, bD (bA (Below.refl _ _) _)⟩))
    (first
      | (go_at_call 79; refine (soundLevels0 room lsn now A n c ss _ HL.out h1 h2 HO.out HRi.out (HR.out.below (by go_split_ands; assumption))).mono ?_; rintro e w1 ⟨rfl, hb1⟩)
      | (go_at_call 80; refine (soundHolds0 room lsn now A n c ss _ HL.out h2 HZ.out (HR.out.below (by go_split_ands; assumption))).mono ?_; rintro e w2 ⟨rfl, hb2⟩)
      | (go_at_call 81; refine (soundDone0 room lsn now A n c ss _ HL.out h2 l1 HZ.out (HR.out.below (by go_split_ands; assumption))).mono ?_; rintro e w3 ⟨rfl, hb3⟩)
      | (go_at_call 82; refine (weight0 room lsn now A n c ss _ HL.out h2 HZ.out (HR.out.below (by go_split_ands; assumption))).mono ?_; rintro e w4 ⟨rfl, hb4⟩))
  rename_i hHeld
  have hb : Below w.heap.size w w4 := hHeld.2.2.2.2.2.2
  clear hHeld
  go_wp2_with fail
  go_ret
  exact ⟨rfl, hb⟩
end Go.Proofs.YtnaapkoladiomaaGreatDoor.B
