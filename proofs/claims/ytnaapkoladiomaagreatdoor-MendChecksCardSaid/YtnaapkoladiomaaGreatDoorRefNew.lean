/- The document's New: a new ledger's state: its errors are the program's. -/
import Derived.Test.YtnaapkoladiomaaGreatDoorRefCode
import Derived.Test.YtnaapkoladiomaaGreatDoorRefWeight
import Derived.Test.YtnaapkoladiomaaGreatDoorMend
import Derived.Deep.RegionLaw
namespace Go.Proofs.YtnaapkoladiomaaGreatDoor.B
open Go.RowKit

def RNewPost (ss : List ByteArray) (room : Int) (w : World) (e : Ending) (w' : World) : Prop :=
  Below w.heap.size w w' ∧ ((newE ss room ≠ 0 ∧ e = .returned (.tuple #[noState, .int .i64 (newE ss room)])) ∨
    (newE ss room = 0 ∧ ∃ v, e = .returned (.tuple #[newState room v, .int .i64 0]) ∧ w'.ownsRow w.heap.size 80 3 v ss.length (lvCells ss)))
theorem RNewPost.no {ss : List ByteArray} {room : Int} {w w' : World} {x : Int} (hx : newE ss room = x) (h0 : x ≠ 0) (hb : Below w.heap.size w w') : RNewPost ss room w (.returned (.tuple #[noState, .int .i64 x])) w' := by
  subst hx
  exact ⟨hb, .inl ⟨h0, rfl⟩⟩
theorem newE_code {ss : List ByteArray} {room : Int} {k : Nat} {s : ByteArray} (h0 : ¬ ss.length = 0) (h1 : ¬ room < 0) (h2 : ¬ 131072 < room) (h3 : ¬ 512 < ss.length) (hs : ss[k]? = some s) (h : okText s 40 = false) : newE ss room = 123 := by
  have : ss.all (okText · 40) = false := by
    cases hb : ss.all (okText · 40)
    · rfl
    · rw [List.all_eq_true] at hb
      have := hb s (List.mem_of_getElem? hs)
      rw [h] at this; cases this
  simp [newE, h0, h1, h2, h3, this]
theorem bl_le : ∀ x y : List UInt8, (Op.bytesLess x y || x == y) = !Op.bytesLess y x
  | [], [] => rfl
  | [], _ :: _ => by simp [Op.bytesLess]
  | _ :: _, [] => by simp [Op.bytesLess]
  | a :: x, b :: y => by
    have ih := bl_le x y
    have e : (a :: x == b :: y) = (a == b && x == y) := rfl
    simp only [Op.bytesLess, e]
    rcases Nat.lt_trichotomy a.toNat b.toNat with h | h | h
    · have h1 : decide (a < b) = true := decide_eq_true (UInt8.lt_iff_toNat_lt.2 h)
      have h2 : decide (b < a) = false := decide_eq_false (fun g => by have := UInt8.lt_iff_toNat_lt.1 g; omega)
      have h3 : (b == a) = false := by rw [beq_eq_false_iff_ne]; intro g; subst g; omega
      simp [h1, h2, h3]
    · have h0 : a = b := UInt8.toNat_inj.1 h
      subst h0
      have h1 : decide (a < a) = false := decide_eq_false (fun g => by have := UInt8.lt_iff_toNat_lt.1 g; omega)
      simp only [h1, beq_self_eq_true, Bool.true_and, Bool.false_or]
      exact ih
    · have h1 : decide (a < b) = false := decide_eq_false (fun g => by have := UInt8.lt_iff_toNat_lt.1 g; omega)
      have h2 : decide (b < a) = true := decide_eq_true (UInt8.lt_iff_toNat_lt.2 h)
      have h3 : (a == b) = false := by rw [beq_eq_false_iff_ne]; intro g; subst g; omega
      simp [h1, h2, h3]
theorem SInv.start2 (room : Int) (ss : List ByteArray) (w : World) : SInv room ss w 0 ((w.alloc (Obj.cells #[.int .i64 0, .int .i64 0, .int .i64 0, .slice none 0 0, .slice none 0 0, .slice none 0 0] 29)).alloc (Obj.cells #[.int .i64 room, .int .i64 0, .int .i64 0, .slice none 0 0, .slice none 0 0, .slice none 0 0] 29)) where
  ex := ⟨.slice none 0 0, Blk.new1 (by simp) _ _, own_nil _ _ _ _⟩
  res := (Blk.new w 29 #[.int .i64 0, .int .i64 0, .int .i64 0, .slice none 0 0, .slice none 0 0, .slice none 0 0]).alloc _
  low := bA (bA (Below.refl _ _) _) _
theorem SInv.drewN {room : Int} {ss : List ByteArray} {w wr : World} {k : Nat} (h : SInv room ss w k wr) (m : Nat) : SInv room ss w k (wr.drewN m) := ⟨h.ex, h.res, bN h.low m⟩

set_option maxRecDepth 100000 in
set_option maxHeartbeats 3200000 in
theorem rnew_any (A : Option Addr) (n c : Nat) (ss : List ByteArray) (room : Int) (w : World) (hl : ss.length = n) (hn : n ≤ 9223372036854775807) (hz : ∀ s ∈ ss, s.size ≤ 9223372036854775807) (hr : Rd w 1 A n (strs ss)) :
    Calls Tryz.prog 44 #[.slice A n c, .int .i64 room] w (RNewPost ss room w) := by
  by_cases h0 : n = 0
  · subst h0
    have hx : newE ss room = 2 := by simp [newE, hl]
    have HX := hide hx
    clear hx hl hr
    go_enter Tryz.func44, Tryz.ntmps44
    go_wp2_with fail
    refine bodyPost_ret (v := .tuple #[noState, .int .i64 2]) (by simp [results, Tryz.results44, go_sem, *]) rfl (RNewPost.no HX.out (by omega) ?_)
    repeat (first | with_reducible exact hb | with_reducible exact Below.refl _ _ | with_reducible refine bA ?_ _ | with_reducible refine bD ?_ | with_reducible refine bN ?_ _ | with_reducible refine bS ?_ (by omega) _)
  have k0 : ((n : Int) == 0) = false := by rw [beq_eq_false_iff_ne]; omega
  by_cases h1 : room < 0
  · have hx : newE ss room = 2 := by simp [newE, h1]
    have HX := hide hx
    clear hx hl hr
    go_enter Tryz.func44, Tryz.ntmps44
    go_wp2_with fail
    refine bodyPost_ret (v := .tuple #[noState, .int .i64 2]) (by simp [results, Tryz.results44, go_sem, *]) rfl (RNewPost.no HX.out (by omega) ?_)
    repeat (first | with_reducible exact hb | with_reducible exact Below.refl _ _ | with_reducible refine bA ?_ _ | with_reducible refine bD ?_ | with_reducible refine bN ?_ _ | with_reducible refine bS ?_ (by omega) _)
  by_cases h2 : 131072 < room
  · have hx : newE ss room = 2 := by simp [newE, h2]
    have HX := hide hx
    clear hx hl hr
    go_enter Tryz.func44, Tryz.ntmps44
    go_wp2_with fail
    refine bodyPost_ret (v := .tuple #[noState, .int .i64 2]) (by simp [results, Tryz.results44, go_sem, *]) rfl (RNewPost.no HX.out (by omega) ?_)
    repeat (first | with_reducible exact hb | with_reducible exact Below.refl _ _ | with_reducible refine bA ?_ _ | with_reducible refine bD ?_ | with_reducible refine bN ?_ _ | with_reducible refine bS ?_ (by omega) _)
  by_cases h3 : 512 < n
  · have hx : newE ss room = 1 := by simp [newE, h1, h2, hl, h0, h3]
    have HX := hide hx
    clear hx hl hr
    go_enter Tryz.func44, Tryz.ntmps44
    go_wp2_with fail
    refine bodyPost_ret (v := .tuple #[noState, .int .i64 1]) (by simp [results, Tryz.results44, go_sem, *]) rfl (RNewPost.no HX.out (by omega) ?_)
    repeat (first | with_reducible exact hb | with_reducible exact Below.refl _ _ | with_reducible refine bA ?_ _ | with_reducible refine bD ?_ | with_reducible refine bN ?_ _ | with_reducible refine bS ?_ (by omega) _)
  have hE : ∀ (k : Nat) (s : ByteArray), ss[k]? = some s → okText s 40 = false → newE ss room = 123 := fun k s hs h => newE_code (by omega) h1 h2 (by omega) hs h
  have hN : ss.all (okText · 40) = true → newE ss room = if rise ss = false then 145 else if room < (wt0 ss : Int) then 5 else 0 := by
    intro h
    simp [newE, h1, h2, hl, h0, h3, h]
  have HL := hide hl
  have HE := hide hE
  have HN := hide hN
  have HRd := hide hr
  have HZ := hide hz
  clear hE hN hl hr hz
  obtain ⟨i0, hi0, hz0, hz1, hz2⟩ := info_parts infoLevel
  go_enter Tryz.func44, Tryz.ntmps44
  go_wp2_with fail
  go_loopg [7] n (fun gf i wr => ∃ k : Nat, n ≤ k + gf ∧ k ≤ n ∧ i = .int .i64 k ∧ SInv room ss w k wr ∧ Hid (∀ (j : Nat) (s : ByteArray), j < k → ss[j]? = some s → okText s 40 = true))
  case atStart => exact ⟨0, by omega, by omega, rfl, SInv.start2 room ss w, hide (fun j s h => by omega)⟩
  case round =>
    obtain ⟨k, hg, hk, rfl, hI, hOk⟩ := hrel
    by_cases hlt : k < n
    · obtain ⟨s, hs⟩ : ∃ s, ss[k]? = some s := ⟨ss[k]'(by rw [HL.out]; exact hlt), List.getElem?_eq_getElem _⟩
      obtain ⟨v, hb, hv⟩ := hI.ex
      have hlow := hI.low
      have hres := hI.res
      have hrr : Rd wr 1 A n (strs ss) := HRd.out.below hlow
      obtain ⟨ad, rfl, hc⟩ := hrr.at_ (k := k) (x := .string s) (by rw [strs_get, hs]; rfl)
      have hsz := hlow.size
      have HV := hide hv
      have HLow := hide hlow
      have HT := hide hb
      have HR := hide hres
      have HS := hide hs
      clear hv hlow hb hres hs hI hrr
      have ki0 : (0 : Int) ≤ (k : Int) := by omega
      have ki1 : (k : Int) < (n : Int) := by omega
      go_wp2_with fail
      refine (rcode_any s _ (HZ.out s (List.mem_of_getElem? HS.out))).mono ?_
      rintro e w1 ⟨rfl, rfl⟩
      cases hcode : okText s 40
      · have HX := hide (HE.out k s HS.out hcode)
        have r0 : w1.cell? ⟨w.heap.size, 0, none⟩ = some (.int .i64 0) := HR.out.cell 0
        have f0 := HR.out.frozen 0
        have r1 : w1.cell? ⟨w.heap.size, 1, none⟩ = some (.int .i64 0) := HR.out.cell 1
        have f1 := HR.out.frozen 1
        have r2 : w1.cell? ⟨w.heap.size, 2, none⟩ = some (.int .i64 0) := HR.out.cell 2
        have f2 := HR.out.frozen 2
        have r3 : w1.cell? ⟨w.heap.size, 3, none⟩ = some (.slice none 0 0) := HR.out.cell 3
        have f3 := HR.out.frozen 3
        have r4 : w1.cell? ⟨w.heap.size, 4, none⟩ = some (.slice none 0 0) := HR.out.cell 4
        have f4 := HR.out.frozen 4
        have r5 : w1.cell? ⟨w.heap.size, 5, none⟩ = some (.slice none 0 0) := HR.out.cell 5
        have f5 := HR.out.frozen 5
        go_wp2_with fail
        refine bodyPost_ret (v := .tuple #[noState, .int .i64 123]) (by simp [results, Tryz.results44, go_sem, *]) rfl (RNewPost.no HX.out (by omega) ?_)
        have hb := HLow.out
        repeat (first | with_reducible exact hb | with_reducible exact Below.refl _ _ | with_reducible refine bA ?_ _ | with_reducible refine bD ?_ | with_reducible refine bN ?_ _ | with_reducible refine bS ?_ (by omega) _)
      · have HCode := hide hcode
        have vB : ∀ q, v.ownBlock = some q → w.heap.size + 1 + 1 ≤ q := by
          intro q hq
          rcases HV.out.2 with ⟨rfl, _⟩ | ⟨g0, c0, cur, rfl, h1, _⟩
          · simp [Value.ownBlock] at hq
          · have : g0 = q := by simpa [Value.ownBlock] using hq
            omega
        have v1 : some (w.heap.size + 1) ≠ v.ownBlock := fun e => by have := vB _ e.symm; omega
        have lT : w.heap.size + 1 < w1.heap.size := HT.out.lt
        have cT : w1.cell? ⟨w.heap.size + 1, 3, none⟩ = some v := HT.out.cell 3
        have fT : w1.frozen? ⟨w.heap.size + 1, 3, none⟩ = false := HT.out.frozen 3
        have hvA : ∀ o : Obj, (w1.alloc o).drew.ownsRow (w.heap.size + 1 + 1) 80 3 v k (lvCells (ss.take k)) := fun o => own_below HV.out (bD (bA (Below.refl _ _) o))
        clear hcode
        go_wp2_with fail
        go_region_law
          ((refine step_append_lies _ (by rfl) _ _ _ (by rfl) (w.heap.size + 1 + 1) 80 i0 _ 3 32 Tryz.underlying25 hi0 hz0 hz1 hz2 rfl (by omega) v k (lvCells (ss.take k)) (by rfl) (hvA _)
              ⟨w1.heap.size, 0, none⟩ 1 1 [.string s, .int .i64 0, .int .i64 0] (by rfl) (by rfl) (World.news_of_block (cs := #[.string s, .int .i64 0, .int .i64 0]) (t := 80) (fr := (0, 0)) (heap_alloc_new w1 _)) (by simp [Value.oneCell'])
              (by omega) (by simp only [maxLen]; omega) (by omega) (by simp; omega) (w1.heap.size + 1) (by simp) ?_; intro g' cap w2 hown1 hgrow hat hlt'; have hb1 := hide ((Blk.drew_ (HT.out.alloc _)).grown hgrow v1); have cT1 : w2.cell? ⟨w.heap.size + 1, 3, none⟩ = some v := hb1.out.cell 3; have fT1 : w2.frozen? ⟨w.heap.size + 1, 3, none⟩ = false := hb1.out.frozen 3))
        all_goals go_wp2_with fail
        all_goals go_roundg (gk - 1)
        case' measure => omega
        all_goals first | omega | skip
        all_goals
          refine ⟨k + 1, by omega, by omega, by go_num, SInv.step HR.out HLow.out HT.out HV.out HS.out hown1 hgrow hat, hide fun j x hj hx => ?_⟩
          rcases Nat.lt_or_eq_of_le (Nat.le_of_lt_succ hj) with h' | h'
          · exact hOk.out j x h' hx
          · subst h'
            have := Option.some.inj (HS.out.symm.trans hx)
            rw [← this]; exact HCode.out
    · obtain rfl : k = n := by omega
      have HAll := hide (show ss.all (okText · 40) = true from List.all_eq_true.2 fun x hx => by
        obtain ⟨j, hj, rfl⟩ := List.mem_iff_getElem.1 hx
        exact hOk.out j _ (by have := HL.out; omega) (List.getElem?_eq_getElem hj))
      clear hOk
      obtain ⟨W, rfl⟩ : ∃ W, W = wr := ⟨_, rfl⟩
      have HI := hide hI
      have HRW := hide (HRd.out.below hI.low)
      clear hI
      go_wp2_with fail
      go_loopg [8] k (fun gf i wx => ∃ q : Nat, k ≤ q + gf ∧ 1 ≤ q ∧ (q ≤ k ∨ q = 1) ∧ i = .int .i64 q ∧ (∃ m, W.drewN m = wx) ∧ Hid (∀ (j : Nat) (a b : ByteArray), j + 1 < q → ss[j]? = some a → ss[j + 1]? = some b → lessS a b = true))
      case atStart => exact ⟨1, by omega, by omega, .inr rfl, rfl, ⟨0, rfl⟩, hide (fun j a b h => by omega)⟩
      case round =>
        obtain ⟨q, hg2, h1q, hq, rfl, ⟨m, rfl⟩, HA⟩ := hrel
        by_cases hlt2 : q < k
        · obtain ⟨j, rfl⟩ : ∃ j, q = j + 1 := ⟨q - 1, by omega⟩
          obtain ⟨a, ha⟩ : ∃ a, ss[j]? = some a := ⟨ss[j]'(by rw [HL.out]; omega), List.getElem?_eq_getElem _⟩
          obtain ⟨b, hb⟩ : ∃ b, ss[j + 1]? = some b := ⟨ss[j + 1]'(by rw [HL.out]; exact hlt2), List.getElem?_eq_getElem _⟩
          obtain ⟨ad, rfl, hc0⟩ := HRW.out.at_ (k := j) (x := .string a) (by rw [strs_get, ha]; rfl)
          obtain ⟨ad2, hA2, hc1⟩ := HRW.out.at_ (k := j + 1) (x := .string b) (by rw [strs_get, hb]; rfl)
          obtain rfl : ad = ad2 := Option.some.inj hA2
          have hc2 := hc1
          rw [add_pos ad (by omega)] at hc2
          have Ha := hide ha
          have Hb := hide hb
          clear ha hb hA2
          have i0 : (0 : Int) ≤ (j : Int) := by omega
          have i1 : (j : Int) < (k : Int) := by omega
          have i2 : (j : Int) + 1 < (k : Int) := by omega
          have i3 : (0 : Int) ≤ (j : Int) + 1 := by omega
          have w0 : IntKind.i64.wrap (j : Int) = (j : Int) := IntWalk.i64_in _ (by omega)
          have w1 : IntKind.i64.wrap ((j : Int) + 1 - 1) = (j : Int) := by rw [show (j : Int) + 1 - 1 = j by omega]; exact w0
          have t0 : ((j : Int) + 1).toNat = j + 1 := by omega
          have hle := bl_le b.toList a.toList
          cases hx : Op.bytesLess b.toList a.toList
          · cases hy : (b.toList == a.toList)
            · have HZ2 := hide (show Op.bytesLess a.toList b.toList = true by rw [hx, hy] at hle; simpa using hle)
              clear hle
              go_wp2_with fail
              go_quiet (fail)
              go_wp2_with fail
              go_roundg (gk - 1)
              case measure => omega
              case rel =>
                refine ⟨j + 2, by omega, by omega, .inl (by omega), by go_num, by first | exact ⟨_, rfl⟩ | exact ⟨_, (World.drewN_drewN ..).symm⟩, hide fun i x y hi hx hy => ?_⟩
                rcases Nat.lt_or_ge i j with h | h
                · exact HA.out i x y (by omega) hx hy
                · obtain rfl : i = j := by omega
                  have e1 := Option.some.inj (Ha.out.symm.trans hx)
                  have e2 := Option.some.inj (Hb.out.symm.trans hy)
                  rw [← e1, ← e2]; exact HZ2.out
            · have hz : Op.bytesLess a.toList b.toList = false := by rw [hx, hy] at hle; simpa using hle
              have HX := hide (show newE ss room = 145 by rw [HN.out HAll.out, rise_not Ha.out Hb.out hz]; rfl)
              have HR := hide HI.out.res
              clear hle hz
              have r0 : W.cell? ⟨w.heap.size, 0, none⟩ = some (.int .i64 0) := HR.out.cell 0
              have f0 := HR.out.frozen 0
              have r1 : W.cell? ⟨w.heap.size, 1, none⟩ = some (.int .i64 0) := HR.out.cell 1
              have f1 := HR.out.frozen 1
              have r2 : W.cell? ⟨w.heap.size, 2, none⟩ = some (.int .i64 0) := HR.out.cell 2
              have f2 := HR.out.frozen 2
              have r3 : W.cell? ⟨w.heap.size, 3, none⟩ = some (.slice none 0 0) := HR.out.cell 3
              have f3 := HR.out.frozen 3
              have r4 : W.cell? ⟨w.heap.size, 4, none⟩ = some (.slice none 0 0) := HR.out.cell 4
              have f4 := HR.out.frozen 4
              have r5 : W.cell? ⟨w.heap.size, 5, none⟩ = some (.slice none 0 0) := HR.out.cell 5
              have f5 := HR.out.frozen 5
              go_wp2_with fail
              go_quiet (fail)
              go_wp2_with fail
              refine bodyPost_ret (v := .tuple #[noState, .int .i64 145]) (by simp [results, Tryz.results44, go_sem, *]) rfl (RNewPost.no HX.out (by omega) ?_)
              have hb := HI.out.low
              have hsz := hb.size
              repeat (first | with_reducible exact hb | with_reducible exact Below.refl _ _ | with_reducible refine bA ?_ _ | with_reducible refine bD ?_ | with_reducible refine bN ?_ _ | with_reducible refine bS ?_ (by omega) _)
          · have hz : Op.bytesLess a.toList b.toList = false := by rw [hx] at hle; simpa using hle
            have HX := hide (show newE ss room = 145 by rw [HN.out HAll.out, rise_not Ha.out Hb.out hz]; rfl)
            have HR := hide HI.out.res
            clear hle hz
            have r0 : W.cell? ⟨w.heap.size, 0, none⟩ = some (.int .i64 0) := HR.out.cell 0
            have f0 := HR.out.frozen 0
            have r1 : W.cell? ⟨w.heap.size, 1, none⟩ = some (.int .i64 0) := HR.out.cell 1
            have f1 := HR.out.frozen 1
            have r2 : W.cell? ⟨w.heap.size, 2, none⟩ = some (.int .i64 0) := HR.out.cell 2
            have f2 := HR.out.frozen 2
            have r3 : W.cell? ⟨w.heap.size, 3, none⟩ = some (.slice none 0 0) := HR.out.cell 3
            have f3 := HR.out.frozen 3
            have r4 : W.cell? ⟨w.heap.size, 4, none⟩ = some (.slice none 0 0) := HR.out.cell 4
            have f4 := HR.out.frozen 4
            have r5 : W.cell? ⟨w.heap.size, 5, none⟩ = some (.slice none 0 0) := HR.out.cell 5
            have f5 := HR.out.frozen 5
            go_wp2_with fail
            go_quiet (fail)
            go_wp2_with fail
            refine bodyPost_ret (v := .tuple #[noState, .int .i64 145]) (by simp [results, Tryz.results44, go_sem, *]) rfl (RNewPost.no HX.out (by omega) ?_)
            have hb := HI.out.low
            have hsz := hb.size
            repeat (first | with_reducible exact hb | with_reducible exact Below.refl _ _ | with_reducible refine bA ?_ _ | with_reducible refine bD ?_ | with_reducible refine bN ?_ _ | with_reducible refine bS ?_ (by omega) _)
        · have hres : rise ss = true := rise_at fun j a b ha hb => by
            have := (List.getElem?_eq_some_iff.1 hb).1
            rw [HL.out] at this
            exact HA.out j a b (by omega) ha hb
          have HN2 := hide (show newE ss room = if room < (wt0 ss : Int) then 5 else 0 by rw [HN.out HAll.out, hres]; rfl)
          clear hres HA
          have hI := HI.out.drewN m
          generalize W.drewN m = V at hI ⊢
          obtain ⟨v, hb, hv⟩ := hI.ex
          obtain ⟨A1, c1, rfl, hc1⟩ := own_slice hv
          rw [List.take_of_length_le (by rw [HL.out]; omega)] at hv
          have HT := hide hb
          have HV := hide hv
          have HLow := hide hI.low
          have HR := hide hI.res
          clear hI hb hv
          have t0 : V.cell? ⟨w.heap.size + 1, 0, none⟩ = some (.int .i64 room) := HT.out.cell 0
          have t1 : V.cell? ⟨w.heap.size + 1, 1, none⟩ = some (.int .i64 0) := HT.out.cell 1
          have t2 : V.cell? ⟨w.heap.size + 1, 2, none⟩ = some (.int .i64 0) := HT.out.cell 2
          have t3 : V.cell? ⟨w.heap.size + 1, 3, none⟩ = some (.slice A1 k c1) := HT.out.cell 3
          have t4 : V.cell? ⟨w.heap.size + 1, 4, none⟩ = some (.slice none 0 0) := HT.out.cell 4
          have t5 : V.cell? ⟨w.heap.size + 1, 5, none⟩ = some (.slice none 0 0) := HT.out.cell 5
          go_wp2_with fail
          refine (rweight_any room 0 0 A1 k c1 (ss.map fun s => (s, 0, 0)) _ (by rw [List.length_map]; exact HL.out) (by omega) (fun x hx => by
            obtain ⟨s, hs, rfl⟩ := List.mem_map.1 hx
            exact size_of_ok (List.all_eq_true.1 HAll.out s hs)) (by rw [← lvCells_eq]; exact Rd.of_own HV.out)).mono ?_
          rintro e V2 ⟨rfl, hb2⟩
          have hmm : (ss.map fun s => ((s, 0, 0) : ByteArray × Int × Int)).map (·.1) = ss := by rw [List.map_map]; exact List.map_id' ss
          rw [hmm]
          have HB2 := hide hb2
          have HT2 := hide (HT.out.below hb2)
          have HR2 := hide (HR.out.below hb2)
          have HLow2 := hide (bT HLow.out hb2)
          clear hb2 hmm t0 t1 t2 t3 t4 t5
          have HT := HT2
          have HR := HR2
          have t0 : V2.cell? ⟨w.heap.size + 1, 0, none⟩ = some (.int .i64 room) := HT.out.cell 0
          have t1 : V2.cell? ⟨w.heap.size + 1, 1, none⟩ = some (.int .i64 0) := HT.out.cell 1
          have t2 : V2.cell? ⟨w.heap.size + 1, 2, none⟩ = some (.int .i64 0) := HT.out.cell 2
          have t3 : V2.cell? ⟨w.heap.size + 1, 3, none⟩ = some (.slice A1 k c1) := HT.out.cell 3
          have t4 : V2.cell? ⟨w.heap.size + 1, 4, none⟩ = some (.slice none 0 0) := HT.out.cell 4
          have t5 : V2.cell? ⟨w.heap.size + 1, 5, none⟩ = some (.slice none 0 0) := HT.out.cell 5
          have r0 : V2.cell? ⟨w.heap.size, 0, none⟩ = some (.int .i64 0) := HR.out.cell 0
          have f0 := HR.out.frozen 0
          have r1 : V2.cell? ⟨w.heap.size, 1, none⟩ = some (.int .i64 0) := HR.out.cell 1
          have f1 := HR.out.frozen 1
          have r2 : V2.cell? ⟨w.heap.size, 2, none⟩ = some (.int .i64 0) := HR.out.cell 2
          have f2 := HR.out.frozen 2
          have r3 : V2.cell? ⟨w.heap.size, 3, none⟩ = some (.slice none 0 0) := HR.out.cell 3
          have f3 := HR.out.frozen 3
          have r4 : V2.cell? ⟨w.heap.size, 4, none⟩ = some (.slice none 0 0) := HR.out.cell 4
          have f4 := HR.out.frozen 4
          have r5 : V2.cell? ⟨w.heap.size, 5, none⟩ = some (.slice none 0 0) := HR.out.cell 5
          have f5 := HR.out.frozen 5
          have hszs := HLow2.out.size
          by_cases h6 : room < (wt0 ss : Int)
          · have HX := hide (show newE ss room = 5 by rw [HN2.out, if_pos h6])
            go_wp2_with fail
            refine bodyPost_ret (v := .tuple #[noState, .int .i64 5]) (by simp [results, Tryz.results44, go_sem, *]) rfl (RNewPost.no HX.out (by omega) ?_)
            have hb := HLow2.out
            repeat (first | with_reducible exact hb | with_reducible exact Below.refl _ _ | with_reducible refine bA ?_ _ | with_reducible refine bD ?_ | with_reducible refine bN ?_ _ | with_reducible refine bS ?_ (by omega) _)
          · have HX := hide (show newE ss room = 0 by rw [HN2.out, if_neg h6])
            go_wp2_with fail
            refine bodyPost_ret (v := .tuple #[newState room (.slice A1 k c1), .int .i64 0]) (by simp [results, Tryz.results44, go_sem, *]) rfl ⟨?_, .inr ⟨HX.out, _, rfl, ?_⟩⟩
            · have hb := HLow2.out
              repeat (first | with_reducible exact hb | with_reducible exact Below.refl _ _ | with_reducible refine bA ?_ _ | with_reducible refine bD ?_ | with_reducible refine bN ?_ _ | with_reducible refine bS ?_ (by omega) _)
            · have h := own_below HV.out HB2.out
              rw [HL.out]
              refine own_move (own_low h (by omega)) fun q hq => ?_
              have hge : w.heap.size + 1 + 1 ≤ q := by
                rcases h.2 with ⟨e, _⟩ | ⟨g0, c0, cur, e, h1, _⟩
                · rw [e] at hq; simp [Value.ownBlock] at hq
                · rw [e] at hq
                  have : g0 = q := by simpa [Value.ownBlock] using hq
                  omega
              repeat rw [Below.heap_setCell _ _ _ _ (by simp; omega)]
end Go.Proofs.YtnaapkoladiomaaGreatDoor.B
