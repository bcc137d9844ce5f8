/- Contracts of functions of the program, walked, and plain laws. -/
import Derived.Test.YtnaapkoladiomaaGreatDoorAppend
import Derived.Test.YtnaapkoladiomaaGreatDoorWord
import Derived.Laws.IdiomStrings
import Derived.Deep.RegionHeld3
import Derived.BigQuiet
import Derived.Deep.QuietTactic
import Derived.Test.YtnaapkoladiomaaGreatDoorPlan
import Derived.Test.YtnaapkoladiomaaGreatDoorRefFormat
import Derived.Test.YtnaapkoladiomaaGreatDoorCheck
/- A copy of texts with marks in the room behind it; are it and the room what they were. -/
namespace Go.Proofs.YtnaapkoladiomaaGreatDoor.B
open Go.RowKit

/-- Bytes as a text. -/
def strB (l : List Nat) : ByteArray := ⟨(l.map UInt8.ofNat).toArray⟩
theorem conv_bytes (A : Option Addr) (n c : Nat) (l : List Nat) (w : World) (hr : Rd w 1 A n (bv l)) (hl : l.length = n) (hb : ∀ b ∈ l, b < 256) :
    (convert 32 9 (.slice A n c)).run Tryz.prog w = .ok (.string (strB l)) w := by
  by_cases h0 : n = 0
  · have e : l = [] := List.length_eq_zero_iff.1 (by omega)
    subst e h0
    rw [run_convert_bytes_string w 32 9 5 A 0 c Tryz.underlying32 Tryz.underlying5 Tryz.underlying9]
    unfold Conv.bytesToString
    cases A with
    | none => simp; rfl
    | some ad => simp [loadCells]; rfl
  · obtain ⟨ad, rfl, hc⟩ := hr.cells (by omega)
    have := run_convert_bytes_back (P := Tryz.prog) w 32 9 5 ad c (l.map UInt8.ofNat) Tryz.underlying32 Tryz.underlying5 Tryz.underlying9 (fun j hj => by
      have hj' : j < l.length := by simpa using hj
      refine hc j _ ?_
      simp only [bv, List.getElem?_map, List.getElem?_eq_getElem hj', Option.map_some, List.getElem_map]
      have := hb _ (List.getElem_mem hj')
      simp; omega)
    rw [List.length_map, hl] at this
    exact this
theorem own_form2 {w : World} {base n size : Nat} {e : TypeId} {v : Value} {xs : List Value} (h : w.ownsRow base e size v n xs) (hn : 1 ≤ n) : ∃ g c, v = .slice (some ⟨g, 0, none⟩) n c := by
  rcases h.2 with ⟨_, h0⟩ | ⟨g, cap, cur, rfl, _⟩
  · omega
  · exact ⟨g, cap, rfl⟩
def noteS (i : Nat) : ByteArray := strB [i % 251, i / 251]
set_option maxRecDepth 100000 in
theorem note_any (i : Nat) (w : World) (hi : i < 64000) : Calls Tryz.prog 42 #[.int .i64 (i : Int)] w fun e w' => e = .returned (.string (noteS i)) ∧ Below w.heap.size w w' := by
  have h0 : 0 ≤ (i : Int) := by omega
  have q1 : (i : Int) % 251 = ((i % 251 : Nat) : Int) := by omega
  have q2 : (i : Int) / 251 = ((i / 251 : Nat) : Int) := by omega
  have hcv : (convert 32 9 (.slice (some ⟨w.heap.size, 0, none⟩) 2 2)).run Tryz.prog (w.alloc (.cells #[.int .u8 ((i : Int) % 251), .int .u8 ((i : Int) / 251)] 5)) = .ok (.string (noteS i)) (w.alloc (.cells #[.int .u8 ((i : Int) % 251), .int .u8 ((i : Int) / 251)] 5)) := by
    refine conv_bytes _ 2 2 [i % 251, i / 251] _ ⟨rfl, fun _ => ⟨_, rfl, fun j u hu => ?_⟩⟩ rfl (by intro b hb; simp at hb; omega)
    have e1 : (⟨w.heap.size, 0, none⟩ : Addr).add j = ⟨w.heap.size, j, none⟩ := by unfold Addr.add; split <;> simp_all
    rw [e1, (Blk.new w 5 _).cell j, ← hu, q1, q2]
    simp [bv]
  clear q1 q2
  go_enter Tryz.func42, Tryz.ntmps42
  go_wp2_with fail
  go_ret
  exact ⟨rfl, bA (Below.refl _ _) _⟩

/-- The marks behind a list of n texts. -/
def marks (m : Nat) : List ByteArray := (List.range m).map fun i => noteS i ++ ⟨#[108, 101, 110, 116]⟩
theorem marks_succ (m : Nat) : marks (m + 1) = marks m ++ [noteS m ++ ⟨#[108, 101, 110, 116]⟩] := by simp [marks, List.range_succ]

set_option maxRecDepth 100000 in
set_option maxHeartbeats 3200000 in
theorem lentTexts_any (A : Option Addr) (n c : Nat) (ss : List ByteArray) (w : World) (hl : ss.length = n) (hn : n * 16 ≤ 140737488351232) (hr : Rd w 1 A n (strs ss)) :
    Calls Tryz.prog 12 #[.slice A n c] w fun e w' => (∃ g cap, e = .returned (.slice (some ⟨g, 0, none⟩) n cap) ∧ n + 9 ≤ cap ∧ w'.ownsRow w.heap.size 9 1 (.slice (some ⟨g, 0, none⟩) (n + 9) cap) (n + 9) (strs (ss ++ marks 9))) ∧ Below w.heap.size w w' := by
  obtain ⟨i0, hi0, hz0, hz1, hz2⟩ := info_parts info_str
  have HR := hide hr
  have HL := hide hl
  clear hr hl
  go_enter Tryz.func12, Tryz.ntmps12
  go_wp2_with (at_builtin; refine wpList_append_rd (v := .slice none 0 0) _ rfl (.tmp 5) (.tmp 6) 22 rfl w.heap.size 9 _ 1 16 Tryz.underlying22 info_str rfl (by decide) rfl (own_nil _ _ _ _) rfl HR.out (strs_one _) ?c1 ?c2 ?c3 ?_; (case c1 => simp only [maxLen]; omega); (case c2 => omega); (case c3 => simp); intro v1 w1 hown1 hg1 hat1; simp only [Nat.zero_add, List.nil_append] at hown1; have HO := hide hown1; have HB := hide (bG (Below.refl w.heap.size w) (own_nil w w.heap.size 9 1) (Nat.le_refl _) hg1); clear hown1 hg1 hat1)
  go_loopg [3, 4] 9 (fun gf v i wr => ∃ m : Nat, 9 ≤ m + gf ∧ m ≤ 9 ∧ i = .int .i64 (m : Int) ∧ wr.ownsRow w.heap.size 9 1 v (n + m) (strs (ss ++ marks m)) ∧ Below w.heap.size w wr)
  case atStart => exact ⟨0, by omega, by omega, rfl, by simpa [marks] using HO.out, HB.out⟩
  case round =>
    obtain ⟨m, hg, hm, rfl, hv, hlow⟩ := hrel
    obtain ⟨A3, c3, rfl, hc3⟩ := own_slice hv
    by_cases hlt : m < 9
    · have h1 : (m : Int) < 9 := by omega
      have HV := hide hv
      have HLow := hide hlow
      clear hv hlow
      go_wp2_with fail
      refine (note_any m _ (by omega)).mono ?_
      rintro e w2 ⟨rfl, hb2⟩
      have hv2 := own_below HV.out hb2
      have hsz : w.heap.size ≤ w2.heap.size := Nat.le_trans HLow.out.size hb2.size
      have hvA : ∀ o : Obj, (w2.alloc o).ownsRow w.heap.size 9 1 (.slice A3 (n + m) c3) (n + m) (strs (ss ++ marks m)) := fun o => own_below hv2 (bA (Below.refl _ _) o)
      have HLo2 := hide (bT HLow.out hb2)
      have HV2 := hide hv2
      clear hv2 hb2 HV HLow
      go_wp2_with (at_builtin; refine wpList_append_lies _ rfl _ _ _ rfl w.heap.size 9 i0 _ 1 16 Tryz.underlying22 hi0 hz0 hz1 hz2 rfl (by omega) (.slice A3 (n + m) c3) (n + m) (strs (ss ++ marks m)) rfl (hvA _) ⟨w2.heap.size, 0, none⟩ 1 1 [.string (noteS m ++ ⟨#[108, 101, 110, 116]⟩)] rfl rfl (by have := World.news_of_block (cs := #[.string (noteS m ++ ⟨#[108, 101, 110, 116]⟩)]) (t := 9) (fr := (0, 0)) (heap_alloc_new w2 _); simpa using this) (by simp [Value.oneCell']) (by omega) (by simp only [maxLen]; omega) (by omega) (by simp; omega) (w2.heap.size + 1) (by simp) ?_; intro g' cap wx hown1 hgrow hat hlt')
      go_roundg (gk - 1)
      case measure => omega
      case rel =>
        refine ⟨m + 1, by omega, by omega, by go_num, ?_, (HLo2.out.alloc hsz _).grown hgrow (by simp; omega) (fun q hq => own_base HV2.out q hq)⟩
        have e : strs (ss ++ marks (m + 1)) = strs (ss ++ marks m) ++ [.string (noteS m ++ ⟨#[108, 101, 110, 116]⟩)] := by rw [marks_succ]; simp [strs]
        rw [e]
        exact hown1
    · obtain rfl : m = 9 := by omega
      have hown := hv
      obtain ⟨g, cap, hu⟩ := own_form2 hown (by omega)
      injection hu with hu1 hu2 hu3
      subst hu1 hu3
      have HV := hide hv
      have HLow := hide hlow
      clear hv hlow hown
      have h2 : n ≤ c3 := by omega
      go_wp2_with fail
      go_ret
      exact ⟨⟨g, c3, rfl, by omega, HV.out⟩, HLow.out⟩

set_option maxRecDepth 100000 in
set_option maxHeartbeats 6400000 in
theorem keptTexts_any (A A2 : Option Addr) (n c cap : Nat) (ss : List ByteArray) (w : World) (hl : ss.length = n) (hn : n * 16 ≤ 140737488351232) (hc : n + 9 ≤ cap) (hr : Rd w 1 A2 n (strs ss)) (ho : Rd w 1 A (n + 9) (strs (ss ++ marks 9))) :
    Calls Tryz.prog 19 #[.slice A n cap, .slice A2 n c] w fun e w' => e = .returned (.bool true) ∧ Below w.heap.size w w' := by
  obtain ⟨ad, rfl, hc0⟩ := ho.cells (by omega)
  have HR := hide hr
  have HL := hide hl
  have HO := hide ho
  have hwr : IntKind.i64.wrap ((n : Int) + 9) = (n : Int) + 9 := IntWalk.i64_in _ (by omega)
  clear hr hl ho hc0
  go_enter Tryz.func19, Tryz.ntmps19
  go_wp2_with fail
  go_loopg [6] (n + 9) (fun gf i wr => ∃ k : Nat, n + 9 ≤ k + gf ∧ k ≤ n + 9 ∧ i = .int .i64 (k : Int) ∧ Below w.heap.size w wr)
  case atStart => exact ⟨0, by omega, by omega, rfl, Below.refl _ _⟩
  case round =>
    obtain ⟨k, hg, hk, rfl, hlow⟩ := hrel
    have HLow := hide hlow
    have HOr := HO.out.below hlow
    have HRr := HR.out.below hlow
    clear hlow
    by_cases hlt : k < n + 9
    · have hk0 : (0 : Int) ≤ (k : Int) := by omega
      have hk1 : (k : Int) < (n : Int) + 9 := by omega
      by_cases hkn : k < n
      · have hk2 : (k : Int) < (n : Int) := by omega
        have hgeq : decide (n ≤ k) = false := by simpa using hkn
        obtain ⟨s, hs⟩ : ∃ s, ss[k]? = some s := ⟨ss[k]'(by rw [HL.out]; exact hkn), List.getElem?_eq_getElem _⟩
        have hsl : k < ss.length := by rw [HL.out]; exact hkn
        obtain ⟨a1, e1, q1⟩ := HOr.at_ (k := k) (x := .string s) (by rw [strs_get, List.getElem?_append_left hsl, hs]; rfl)
        obtain ⟨a2, e2, q2⟩ := HRr.at_ (k := k) (x := .string s) (by rw [strs_get, hs]; rfl)
        cases e1
        cases e2
        clear hs HOr HRr
        go_wp2_with fail
        go_quiet (fail)
        go_wp2_with fail
        go_roundg (gk - 1)
        case measure => omega
        case rel => exact ⟨k + 1, by omega, by omega, by go_num, bN HLow.out _⟩
      · obtain ⟨m, hm⟩ : ∃ m, k = n + m := ⟨k - n, by omega⟩
        have hm9 : m < 9 := by omega
        have hnk : decide (k < n) = false := by simp; omega
        have hgeq : decide (n ≤ k) = true := by simp; omega
        have hns : ¬ (9223372036854775807 < (noteS m).size + 4) := by simp [noteS, strB, ByteArray.size]
        have hsub : IntKind.i64.wrap ((k : Int) - (n : Int)) = (m : Int) := by rw [IntWalk.i64_in _ (by omega)]; omega
        obtain ⟨a1, e1, q1⟩ := HOr.at_ (k := k) (x := .string (noteS m ++ ⟨#[108, 101, 110, 116]⟩)) (by
          rw [strs_get, List.getElem?_append_right (by rw [HL.out]; omega), HL.out, show k - n = m by omega]
          simp [marks, hm9])
        cases e1
        have HMm := hide hm
        clear HOr HRr hm
        go_wp2_with fail
        refine plan_region (fun w' => w'.cell? (ad.add k) = some (.string (noteS m ++ ⟨#[108, 101, 110, 116]⟩)) ∧ Below wr.heap.size wr w') [29] [0, 1, 2, 3, 4, 5, 6, 7, 8, 9, 10, 11, 12, 13, 14, 15, 16, 17, 18, 19, 20, 21, 22, 23, 24, 25, 26, 27, 28, 29, 30, 31, 32, 33] (by kernel_rfl) (by kernel_rfl) (fun _ d _ _ _ h => by cases d <;> exact h) ⟨q1, bD (Below.refl _ _)⟩ (fun hHeld => ?_)
        dsimp only
        repeat
          first
          | (refine Plan.off (a' := ?_) rfl rfl rfl (by rfl) ?_ ?_
             rotate_left
             · simp only [Act.put, List.setIfInBounds_toArray, List.set_cons_zero, List.set_cons_succ]
               rfl)
          | (refine Plan.read (v := ?_) (a' := ?_) rfl rfl rfl (by rfl) ?_ ?_ ?_
             rotate_left
             · rintro w' ⟨h1, -⟩
               go_simp
               with_reducible rfl
             rotate_left
             · simp only [Act.put, List.setIfInBounds_toArray, List.set_cons_zero, List.set_cons_succ]
               rfl)
        refine Plan.eff rfl rfl (by rfl) (fun K hK => ?_)
        go_simp
        go_at_call 42
        refine (note_any m _ (by omega)).mono ?_
        rintro e w2 ⟨rfl, hb2⟩
        refine hK.out _ _ ⟨bget hb2 hHeld.1, bT hHeld.2 hb2⟩ (fun hH2 => ?_)
        clear hK
        try simp only [Act.put, List.setIfInBounds_toArray, List.set_cons_zero, List.set_cons_succ]
        repeat
          first
          | (refine Plan.off (a' := ?_) rfl rfl rfl (by rfl) ?_ ?_
             rotate_left
             · simp only [Act.put, List.setIfInBounds_toArray, List.set_cons_zero, List.set_cons_succ]
               rfl)
          | (refine Plan.read (v := ?_) (a' := ?_) rfl rfl rfl (by rfl) ?_ ?_ ?_
             rotate_left
             · rintro w' ⟨h1, -⟩
               go_simp
               with_reducible rfl
             rotate_left
             · simp only [Act.put, List.setIfInBounds_toArray, List.set_cons_zero, List.set_cons_succ]
               rfl)
        change (Exit.then _ _) _ _ _
        have HB2 := hide (bT HLow.out hH2.2)
        clear hHeld hH2 hb2
        go_wp2_with fail
        go_roundg (gk - 1)
        case measure => omega
        case rel => exact ⟨k + 1, by omega, by omega, by go_num, HB2.out⟩
    · obtain rfl : k = n + 9 := by omega
      go_wp2_with fail
      go_ret
      exact ⟨rfl, HLow.out⟩
end Go.Proofs.YtnaapkoladiomaaGreatDoor.B
/- The law MendChecks, walked: it answers true. -/
namespace Go.Proofs.YtnaapkoladiomaaGreatDoor.B
open Go.RowKit Go.Shelf

theorem rformat_any (A : Option Addr) (n c : Nat) (ss : List ByteArray) (st hd se sl : Int) (w : World) (hl : ss.length = n) (hn : n ≤ 9223372036854775807) (hz : ∀ s ∈ ss, s.size ≤ 9223372036854775807) (hr : Rd w 1 A n (strs ss)) :
    Calls Tryz.prog 14 #[cfgV A n c st hd se sl] w (FmtPost ss st hd se sl w) := by
  by_cases hE : emptyE ss st hd se sl = 0
  · obtain ⟨a1, a2, a3, a4, a5, a6, a7, a8, a9, a10⟩ := empty_facts hE
    obtain ⟨se', rfl⟩ := Int.eq_ofNat_of_zero_le (show 0 ≤ se by omega)
    obtain ⟨sl', rfl⟩ := Int.eq_ofNat_of_zero_le (show 0 ≤ sl by omega)
    exact rformat_ok A n c ss st hd se' sl' w hl hn hz hr hE
  · exact rformat_no A n c ss st hd se sl w hl hn hz hr hE
theorem img_byte (N : Nat) (T : List (Nat × List Nat)) (h : ∀ p ∈ T, ∀ b ∈ p.2, b < 256) : ∀ b ∈ imgN N T, b < 256 := by
  have aux : ∀ (T : List (Nat × List Nat)) (a : List Nat), (∀ b ∈ a, b < 256) → (∀ p ∈ T, ∀ b ∈ p.2, b < 256) → ∀ b ∈ T.foldl (fun a p => lay a (128 * p.1) p.2) a, b < 256 := by
    intro T
    induction T with
    | nil => intro a ha _; simpa using ha
    | cons p r ih =>
      intro a ha hp
      rw [List.foldl_cons]
      refine ih _ (fun b hb => ?_) (fun q hq => hp q (by simp [hq]))
      simp only [lay, splice, List.mem_append] at hb
      rcases hb with hb | hb | hb
      · exact ha b (List.mem_of_mem_take hb)
      · exact hp p (by simp) b hb
      · exact ha b (List.mem_of_mem_drop hb)
  exact aux T _ (by intro b hb; simp [zs] at hb; omega) h
theorem le_byte (k n : Nat) : ∀ b ∈ le k n, b < 256 := by
  induction k generalizing n with
  | zero => intro b hb; simp [le] at hb
  | succ k ih =>
    intro b hb
    simp only [le, List.mem_cons] at hb
    rcases hb with rfl | hb
    · omega
    · exact ih _ b hb
theorem ws_byte (s epoch : Nat) (x : List Nat) (hx : ∀ b ∈ x, b < 256) : ∀ p ∈ wsN s epoch x, ∀ b ∈ p.2, b < 256 := by
  intro p hp b hb
  simp only [wsN, List.mem_append, List.mem_map, List.mem_singleton] at hp
  rcases hp with ⟨j, _, rfl⟩ | rfl
  · simp only [fill, List.mem_append] at hb
    rcases hb with hb | hb
    · exact hx b (List.mem_of_mem_drop (List.mem_of_mem_take hb))
    · have := List.eq_of_mem_replicate hb; omega
  · simp only [hd4_eq, List.mem_append] at hb
    rcases hb with hb | hb | hb | hb | hb
    · exact le_byte _ _ b hb
    · exact le_byte _ _ b hb
    · exact le_byte _ _ b hb
    · simp [zs] at hb; omega
    · exact le_byte _ _ b hb
/-- What Format hands back: bytes and an error, alike for both. -/
def FmtBy (ss : List ByteArray) (st hd se sl : Int) (z : ByteArray) (n : Nat) (E : Int) : Prop := E = emptyE ss st hd se sl ∧ z.size = n
theorem FmtPost.both {ss : List ByteArray} {st hd se sl : Int} {w w' : World} {e : Ending} (h : FmtPost ss st hd se sl w e w') :
    ∃ A n c l, e = .returned (.tuple #[.slice A n c, .int .i64 (emptyE ss st hd se sl)]) ∧ Rd w' 1 A n (bv l) ∧ l.length = n ∧ (∀ b ∈ l, b < 256) ∧ l = (if emptyE ss st hd se sl = 0 then imgN (se.toNat * 128) (wsN sl.toNat 1 (body0 ss sl)) else []) ∧ Below w.heap.size w w' := by
  obtain ⟨hb, ⟨h0, rfl⟩ | ⟨h0, g, rfl, hr⟩⟩ := h
  · exact ⟨none, 0, 0, [], rfl, Rd.none_ _ _, rfl, by simp, by rw [if_neg h0], hb⟩
  · obtain ⟨a1, a2, a3, a4, a5, a6, a7, a8, a9, a10⟩ := empty_facts h0
    obtain ⟨b1, b2, b3, b4, b5, b6, b7⟩ := new_facts a10
    have hl : (imgN (se.toNat * 128) (wsN sl.toNat 1 (body0 ss sl))).length = se.toNat * 128 := by have := hr.len; simpa using this
    refine ⟨_, _, _, imgN (se.toNat * 128) (wsN sl.toNat 1 (body0 ss sl)), by rw [h0], hr, hl, img_byte _ _ (ws_byte _ _ _ ?_), by rw [if_pos h0], hb⟩
    exact st0_byte (roomOf sl).toNat ss (fun s hs => size_of_ok (List.all_eq_true.1 b5 s hs)) (by omega) b2

set_option maxRecDepth 100000 in
set_option maxHeartbeats 12800000 in
theorem mendChecks_walk (A : Option Addr) (n c : Nat) (ss : List ByteArray) (st hd se sl : Int) (w : World) (hT : TabAt w) (hl : ss.length = n) (hn : n * 16 ≤ 140737488351232) (hz : ∀ s ∈ ss, s.size ≤ 9223372036854775807) (hr : Rd w 1 A n (strs ss)) :
    Calls Tryz.prog 4 #[cfgV A n c st hd se sl] w fun e w' => e = .returned (.bool true) ∧ Below w.heap.size w w' := by
  have HL := hide hl
  have HSz := hide hz
  have hn2 : n ≤ 9223372036854775807 := by omega
  have HB0 := hide (bA (Below.refl w.heap.size w) (.cells (cfgC A n c st hd se sl) 24))
  have HR := hide hr
  have HT := hide hT
  clear hl hz hr hT
  go_enter Tryz.func4, Tryz.ntmps4
  go_wp2_with fail
  have HC1 := hide ((Blk.new1 (w := w) rfl 24 (cfgC A n c st hd se sl)).alloc (.cells (cfgC A n c st hd se sl) 24))
  have HO1 := hide (Blk.new1 (w := w.alloc (.cells (cfgC A n c st hd se sl) 24)) (g := w.heap.size + 1) (by simp) 24 (cfgC A n c st hd se sl))
  have HB1 := hide (bA HB0.out (.cells (cfgC A n c st hd se sl) 24))
  refine (lentTexts_any A n c ss _ HL.out hn (HR.out.below HB1.out)).mono ?_
  rintro e w2 ⟨⟨g, cap, rfl, hcap, hown⟩, hb2⟩
  have HB2 := hide (bT HB1.out hb2)
  have HC2 := hide (HC1.out.below hb2)
  have HO2 := hide (HO1.out.below hb2)
  have hgl : w.heap.size + 2 ≤ g := by have := own_base hown g rfl; simpa using this
  have HW := hide (Rd.of_own hown)
  have c0 : w2.cell? ⟨w.heap.size, 0, none⟩ = some (.slice A n c) := HC2.out.cell 0
  have c1 : w2.cell? ⟨w.heap.size, 1, none⟩ = some (.int .i64 st) := HC2.out.cell 1
  have c2 : w2.cell? ⟨w.heap.size, 2, none⟩ = some (.int .i64 hd) := HC2.out.cell 2
  have c3 : w2.cell? ⟨w.heap.size, 3, none⟩ = some (.int .i64 se) := HC2.out.cell 3
  have c4 : w2.cell? ⟨w.heap.size, 4, none⟩ = some (.int .i64 sl) := HC2.out.cell 4
  have o0 : w2.cell? ⟨w.heap.size + 1, 0, none⟩ = some (.slice A n c) := HO2.out.cell 0
  have o1 : w2.cell? ⟨w.heap.size + 1, 1, none⟩ = some (.int .i64 st) := HO2.out.cell 1
  have o2 : w2.cell? ⟨w.heap.size + 1, 2, none⟩ = some (.int .i64 hd) := HO2.out.cell 2
  have o3 : w2.cell? ⟨w.heap.size + 1, 3, none⟩ = some (.int .i64 se) := HO2.out.cell 3
  have o4 : w2.cell? ⟨w.heap.size + 1, 4, none⟩ = some (.int .i64 sl) := HO2.out.cell 4
  have f0 := HO2.out.frozen 0
  have l1 : w.heap.size < w2.heap.size := HC2.out.lt
  have l2 : w.heap.size + 1 < w2.heap.size := HO2.out.lt
  clear hb2 HB1 HC1 HO1 hown
  go_wp2_with fail
  have HC3 := hide (HC2.out.far (p := ⟨w.heap.size + 1, 0, none⟩) (by simp) (.slice (some ⟨g, 0, none⟩) n cap))
  have HO3 := hide (HO2.out.set_ 0 (.slice (some ⟨g, 0, none⟩) n cap))
  have HB3 := hide (bS (o := 0) HB2.out (Nat.le_succ w.heap.size) (.slice (some ⟨g, 0, none⟩) n cap))
  have HW3 := hide (HW.out.set (q := w.heap.size + 1) (o := 0) (by simp only; omega) (.slice (some ⟨g, 0, none⟩) n cap))
  generalize w2.setCell ⟨w.heap.size + 1, 0, none⟩ (.slice (some ⟨g, 0, none⟩) n cap) = w3 at *
  clear HC2 HO2 HB2 HW c0 c1 c2 c3 c4 o0 o1 o2 o3 o4 f0
  have hW0 : Rd w3 1 (some ⟨g, 0, none⟩) n (strs ss) := by
    have := HW3.out.take1 n (by omega)
    rwa [show (strs (ss ++ marks 9)).take n = strs ss from by simp only [strs, List.map_append]; rw [List.take_left' (by simp [HL.out])]] at this
  refine (fmt_any (some ⟨g, 0, none⟩) n cap ss st hd se sl _ (HT.out.below HB3.out) HL.out hn2 hW0).mono ?_
  intro e w4 hF
  obtain ⟨Aa, na, ca, la, rfl, hra, hla, hba, hea, hb4⟩ := hF.both
  have HRa := hide hra
  have HLa := hide hla
  have HBa := hide hba
  have HEa := hide hea
  have HB4 := hide (bT HB3.out hb4)
  have HC4 := hide (HC3.out.below hb4)
  have HO4 := hide (HO3.out.below hb4)
  have HW4 := hide (HW3.out.below hb4)
  have HV4 := hide (hW0.below hb4)
  have c0 : w4.cell? ⟨w.heap.size, 0, none⟩ = some (.slice A n c) := HC4.out.cell 0
  have c1 : w4.cell? ⟨w.heap.size, 1, none⟩ = some (.int .i64 st) := HC4.out.cell 1
  have c2 : w4.cell? ⟨w.heap.size, 2, none⟩ = some (.int .i64 hd) := HC4.out.cell 2
  have c3 : w4.cell? ⟨w.heap.size, 3, none⟩ = some (.int .i64 se) := HC4.out.cell 3
  have c4 : w4.cell? ⟨w.heap.size, 4, none⟩ = some (.int .i64 sl) := HC4.out.cell 4
  clear hF hra hla hba hea hb4 HC3 HO3 HB3 HW3 hW0
  go_wp2_with fail
  refine (rformat_any A n c ss st hd se sl _ HL.out hn2 HSz.out (HR.out.below HB4.out)).mono ?_
  intro e w5 hF
  obtain ⟨Ab, nb, cb, lb, rfl, hrb, hlb, hbb, heb, hb5⟩ := hF.both
  have HB5 := hide (bT HB4.out hb5)
  have HC5 := hide (HC4.out.below hb5)
  have HO5 := hide (HO4.out.below hb5)
  have HW5 := hide (HW4.out.below hb5)
  have HV5 := hide (HV4.out.below hb5)
  have hab : lb = la := by rw [heb, HEa.out]
  subst hab
  have HRA := hide (HRa.out.below hb5)
  have HRB := hide hrb
  have HLb := hide hlb
  clear hF hrb hlb hbb heb hb5 HC4 HO4 HB4 HW4 HV4 HRa HEa c0 c1 c2 c3 c4
  obtain ⟨E, hE⟩ : ∃ E, E = emptyE ss st hd se sl := ⟨_, rfl⟩
  rw [← hE]
  have HE := hide hE
  clear hE
  go_wp2_with fail
  have c0 : w5.cell? ⟨w.heap.size, 0, none⟩ = some (.slice A n c) := HC5.out.cell 0
  have c1 : w5.cell? ⟨w.heap.size, 1, none⟩ = some (.int .i64 st) := HC5.out.cell 1
  have c2 : w5.cell? ⟨w.heap.size, 2, none⟩ = some (.int .i64 hd) := HC5.out.cell 2
  have c3 : w5.cell? ⟨w.heap.size, 3, none⟩ = some (.int .i64 se) := HC5.out.cell 3
  have c4 : w5.cell? ⟨w.heap.size, 4, none⟩ = some (.int .i64 sl) := HC5.out.cell 4
  have o0 : w5.cell? ⟨w.heap.size + 1, 0, none⟩ = some (.slice (some ⟨g, 0, none⟩) n cap) := HO5.out.cell 0
  have o1 : w5.cell? ⟨w.heap.size + 1, 1, none⟩ = some (.int .i64 st) := HO5.out.cell 1
  have o2 : w5.cell? ⟨w.heap.size + 1, 2, none⟩ = some (.int .i64 hd) := HO5.out.cell 2
  have o3 : w5.cell? ⟨w.heap.size + 1, 3, none⟩ = some (.int .i64 se) := HO5.out.cell 3
  have o4 : w5.cell? ⟨w.heap.size + 1, 4, none⟩ = some (.int .i64 sl) := HO5.out.cell 4
  have HCell := hide (show ∀ W', Below w5.heap.size w5 W' → W'.cell? ⟨w.heap.size, 0, none⟩ = some (.slice A n c) ∧ W'.cell? ⟨w.heap.size, 1, none⟩ = some (.int .i64 st) ∧ W'.cell? ⟨w.heap.size, 2, none⟩ = some (.int .i64 hd) ∧ W'.cell? ⟨w.heap.size, 3, none⟩ = some (.int .i64 se) ∧ W'.cell? ⟨w.heap.size, 4, none⟩ = some (.int .i64 sl) ∧
    W'.cell? ⟨w.heap.size + 1, 0, none⟩ = some (.slice (some ⟨g, 0, none⟩) n cap) ∧ W'.cell? ⟨w.heap.size + 1, 1, none⟩ = some (.int .i64 st) ∧ W'.cell? ⟨w.heap.size + 1, 2, none⟩ = some (.int .i64 hd) ∧ W'.cell? ⟨w.heap.size + 1, 3, none⟩ = some (.int .i64 se) ∧ W'.cell? ⟨w.heap.size + 1, 4, none⟩ = some (.int .i64 sl) ∧
    (convert 32 9 (.slice Aa na ca)).run Tryz.prog W' = .ok (.string (strB lb)) W' ∧ (convert 32 9 (.slice Ab nb cb)).run Tryz.prog W' = .ok (.string (strB lb)) W' from
    fun W' h => ⟨bget h c0, bget h c1, bget h c2, bget h c3, bget h c4, bget h o0, bget h o1, bget h o2, bget h o3, bget h o4, conv_bytes Aa na ca lb W' (HRA.out.below h) HLa.out HBa.out, conv_bytes Ab nb cb lb W' (HRB.out.below h) HLb.out HBa.out⟩)
  clear c0 c1 c2 c3 c4 o0 o1 o2 o3 o4
  refine plan_region (fun w' => Below w5.heap.size w5 w') [1, 3, 7, 9, 29] [0, 2, 1, 3, 4, 5, 6, 8, 7, 9, 10, 11, 12, 13, 14, 15, 16, 17, 18, 19, 20, 21, 22, 23, 24, 25, 26, 27, 28, 29, 30, 31] (by kernel_rfl) (by kernel_rfl) (fun _ d _ _ _ h => by cases d <;> exact h) (bD (Below.refl _ _)) (fun hHeld => ?_)
  try dsimp only
  repeat
    first
    | (refine Plan.read (v := ?_) (a' := ?_) rfl rfl rfl (by rfl) ?_ ?_ ?_
       rotate_left
       · intro w' hw'
         obtain ⟨g0, g1, g2, g3, g4, h0, h1, h2, h3, h4, h5, h6⟩ := HCell.out w' hw'
         go_simp
         with_reducible rfl
       rotate_left
       · simp only [Act.put, List.setIfInBounds_toArray, List.set_cons_zero, List.set_cons_succ]
         rfl)
  refine Plan.eff rfl rfl (by rfl) (fun K hK => ?_)
  go_simp
  go_at_call 15
  refine (room_any (some ⟨g, 0, none⟩) n cap st hd se sl _).mono ?_
  rintro e V1 ⟨rfl, rfl⟩
  refine hK.out _ _ (bA hHeld _) (fun hH1 => ?_)
  clear hK
  try simp only [Act.put, List.setIfInBounds_toArray, List.set_cons_zero, List.set_cons_succ]
  repeat
    first
    | (refine Plan.read (v := ?_) (a' := ?_) rfl rfl rfl (by rfl) ?_ ?_ ?_
       rotate_left
       · intro w' hw'
         obtain ⟨g0, g1, g2, g3, g4, h0, h1, h2, h3, h4, h5, h6⟩ := HCell.out w' hw'
         go_simp
         with_reducible rfl
       rotate_left
       · simp only [Act.put, List.setIfInBounds_toArray, List.set_cons_zero, List.set_cons_succ]
         rfl)
  refine Plan.eff rfl rfl (by rfl) (fun K hK => ?_)
  go_simp
  go_at_call 16
  refine (rroom13_any A n c st hd se sl _).mono ?_
  rintro e V2 ⟨rfl, rfl⟩
  refine hK.out _ _ (bA hH1 _) (fun hH2 => ?_)
  clear hK
  try simp only [Act.put, List.setIfInBounds_toArray, List.set_cons_zero, List.set_cons_succ]
  repeat
    first
    | (refine Plan.read (v := ?_) (a' := ?_) rfl rfl rfl (by rfl) ?_ ?_ ?_
       rotate_left
       · intro w' hw'
         obtain ⟨g0, g1, g2, g3, g4, h0, h1, h2, h3, h4, h5, h6⟩ := HCell.out w' hw'
         go_simp
         with_reducible rfl
       rotate_left
       · simp only [Act.put, List.setIfInBounds_toArray, List.set_cons_zero, List.set_cons_succ]
         rfl)
  refine Plan.eff rfl rfl (by rfl) (fun K hK => ?_)
  go_simp
  go_at_call 17
  refine (check_any (some ⟨g, 0, none⟩) n cap ss st hd se sl _ HL.out hn2 (HV5.out.below hH2)).mono ?_
  rintro e V3 ⟨rfl, hb⟩
  refine hK.out _ _ (bT hH2 hb) (fun hH3 => ?_)
  clear hK
  try simp only [Act.put, List.setIfInBounds_toArray, List.set_cons_zero, List.set_cons_succ]
  repeat
    first
    | (refine Plan.read (v := ?_) (a' := ?_) rfl rfl rfl (by rfl) ?_ ?_ ?_
       rotate_left
       · intro w' hw'
         obtain ⟨g0, g1, g2, g3, g4, h0, h1, h2, h3, h4, h5, h6⟩ := HCell.out w' hw'
         go_simp
         with_reducible rfl
       rotate_left
       · simp only [Act.put, List.setIfInBounds_toArray, List.set_cons_zero, List.set_cons_succ]
         rfl)
  refine Plan.eff rfl rfl (by rfl) (fun K hK => ?_)
  go_simp
  go_at_call 18
  refine (rcheck_any A n c ss st hd se sl _ HL.out hn2 HSz.out ((HR.out.below HB5.out).below hH3)).mono ?_
  rintro e V4 ⟨rfl, hb⟩
  refine hK.out _ _ (bT hH3 hb) (fun hH4 => ?_)
  clear hK
  try simp only [Act.put, List.setIfInBounds_toArray, List.set_cons_zero, List.set_cons_succ]
  repeat
    first
    | (refine Plan.read (v := ?_) (a' := ?_) rfl rfl rfl (by rfl) ?_ ?_ ?_
       rotate_left
       · intro w' hw'
         obtain ⟨g0, g1, g2, g3, g4, h0, h1, h2, h3, h4, h5, h6⟩ := HCell.out w' hw'
         go_simp
         with_reducible rfl
       rotate_left
       · simp only [Act.put, List.setIfInBounds_toArray, List.set_cons_zero, List.set_cons_succ]
         rfl)
  refine Plan.eff rfl rfl (by rfl) (fun K hK => ?_)
  go_simp
  go_at_call 19
  refine (keptTexts_any (some ⟨g, 0, none⟩) A n c cap ss _ HL.out hn hcap ((HR.out.below HB5.out).below hH4) (HW5.out.below hH4)).mono ?_
  rintro e V5 ⟨rfl, hb⟩
  refine hK.out _ _ (bT hH4 hb) (fun hH5 => ?_)
  clear hK
  try simp only [Act.put, List.setIfInBounds_toArray, List.set_cons_zero, List.set_cons_succ]
  repeat
    first
    | (refine Plan.read (v := ?_) (a' := ?_) rfl rfl rfl (by rfl) ?_ ?_ ?_
       rotate_left
       · intro w' hw'
         obtain ⟨g0, g1, g2, g3, g4, h0, h1, h2, h3, h4, h5, h6⟩ := HCell.out w' hw'
         go_simp
         with_reducible rfl
       rotate_left
       · simp only [Act.put, List.setIfInBounds_toArray, List.set_cons_zero, List.set_cons_succ]
         rfl)
  change (Exit.then _ _) _ _ _
  have HZ := hide (bT HB5.out hH5)
  clear hHeld hH1 hH2 hH3 hH4 hH5 hb
  go_wp2_with fail
  go_ret
  exact ⟨rfl, HZ.out⟩
end Go.Proofs.YtnaapkoladiomaaGreatDoor.B
