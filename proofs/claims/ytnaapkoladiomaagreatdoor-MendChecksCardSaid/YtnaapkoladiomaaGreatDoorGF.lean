/- Contracts of functions of the program, walked, and plain laws. -/
import Derived.Test.YtnaapkoladiomaaGreatDoorWord
import Derived.Test.YtnaapkoladiomaaGreatDoorCrc
import Derived.Test.YtnaapkoladiomaaGreatDoorMake
import Derived.Laws.IdiomStrings
import Derived.Test.YtnaapkoladiomaaGreatDoorRefWeight
import Derived.Test.YtnaapkoladiomaaGreatDoorPutState
import Derived.Test.YtnaapkoladiomaaGreatDoorGE
/- The document's numbers, words, texts as bytes; its sum. -/
namespace Go.Proofs.YtnaapkoladiomaaGreatDoor.B
open Go.RowKit

set_option maxRecDepth 100000 in
set_option maxHeartbeats 3200000 in
theorem rgroups_any (x : Nat) (w : World) (hx : x < 18446744073709551616) :
    Calls Tryz.prog 97 #[.int .u64 (x : Int)] w (Bytes w.heap.size (grp x) w) := by
  obtain ⟨i0, hi0, hz0, hz1, hz2⟩ := info_parts info_u8
  go_enter Tryz.func97, Tryz.ntmps97
  go_wp2_with fail
  go_loopg [0, 3] 9 (fun gf i b wr => ∃ (f y : Nat) (pre : List Nat), f ≤ gf ∧ y < 2 * 128 ^ f ∧ y ≤ x ∧ i = .int .u64 (y : Int) ∧ pre ++ grpF f y = grp x ∧ pre.length ≤ 10 ∧ wr.ownsRow w.heap.size 5 1 b pre.length (bv pre) ∧ Below w.heap.size w wr)
  case atStart => exact ⟨9, x, [], by omega, by omega, Nat.le_refl _, rfl, by simp [grp], by simp, own_nil _ _ _ _, Below.refl _ _⟩
  case round =>
    obtain ⟨f, y, pre, hf, hy, hyx, rfl, hp, hpl, hv, hlow⟩ := hrel
    by_cases hlt : y < 128
    · have h1 : (y : Int) < 128 := by omega
      have hvA : ∀ o : Obj, (wr.alloc o).ownsRow w.heap.size 5 1 u3 pre.length (bv pre) := fun o => own_below hv (bA (Below.refl _ _) o)
      have hsz : w.heap.size ≤ wr.heap.size := hlow.size
      rw [grpF_lt f y hlt] at hp
      have HV := hide hv
      have HLw := hide hlow
      have HP := hide hp
      clear hv hy hlow hp
      go_wp2_with (at_builtin; refine wpList_append_lies _ rfl _ _ _ rfl w.heap.size 5 i0 _ 1 1 Tryz.underlying32 hi0 hz0 hz1 hz2 rfl (by omega) u3 pre.length (bv pre) rfl (hvA _) ⟨wr.heap.size, 0, none⟩ 1 1 [.int .u8 (y : Int)] rfl rfl (by have := World.news_of_block (cs := #[.int .u8 (y : Int)]) (t := 5) (fr := (0, 0)) (heap_alloc_new wr _); simpa using this) (by simp [Value.oneCell']) (by omega) (by simp only [maxLen]; omega) (by omega) (by simp; omega) (wr.heap.size + 1) (by simp) ?_; intro g' cap wx hown1 hgrow hat hlt')
      go_ret
      have e : grp x = pre ++ [y] := HP.out.symm
      have e2 : (grp x).length = pre.length + 1 := by rw [e]; simp
      refine ⟨⟨g', cap, by rw [e2]; rfl, ?_⟩, (HLw.out.alloc hsz _).grown hgrow (by simp; omega) (fun q hq => own_base HV.out q hq)⟩
      rw [e2, e, bv_append]
      exact hown1
    · have h1 : (128 : Int) ≤ (y : Int) := by omega
      obtain ⟨f', rfl⟩ : ∃ f', f = f' + 1 := by
        cases f with
        | zero => simp at hy; omega
        | succ f' => exact ⟨f', rfl⟩
      have hy2 := pow_step f' y hy
      have hwy : IntKind.u64.wrap ((y : Int) / 128) = (y : Int) / 128 := by simp [IntKind.wrap, IntKind.bits, IntKind.signed]; omega
      have hvA : ∀ o : Obj, (wr.alloc o).ownsRow w.heap.size 5 1 u3 pre.length (bv pre) := fun o => own_below hv (bA (Below.refl _ _) o)
      have hsz : w.heap.size ≤ wr.heap.size := hlow.size
      rw [grpF_ge f' y hlt] at hp
      have hpl2 : pre.length + 1 ≤ 10 := by
        have h1 := congrArg List.length hp
        have h2 := (grpF_len f' (y / 128)).1
        have h3 := (grp_len x).2
        simp at h1
        omega
      have HV := hide hv
      have HLw := hide hlow
      have HP := hide hp
      have HY := hide hy2
      clear hv hy hlow hp hy2
      go_wp2_with (at_builtin; refine wpList_append_lies _ rfl _ _ _ rfl w.heap.size 5 i0 _ 1 1 Tryz.underlying32 hi0 hz0 hz1 hz2 rfl (by omega) u3 pre.length (bv pre) rfl (hvA _) ⟨wr.heap.size, 0, none⟩ 1 1 [.int .u8 ((y : Int) % 128 + 128)] rfl rfl (by have := World.news_of_block (cs := #[.int .u8 ((y : Int) % 128 + 128)]) (t := 5) (fr := (0, 0)) (heap_alloc_new wr _); simpa using this) (by simp [Value.oneCell']) (by omega) (by simp only [maxLen]; omega) (by omega) (by simp; omega) (wr.heap.size + 1) (by simp) ?_; intro g' cap wx hown1 hgrow hat hlt')
      go_roundg (gk - 1)
      case measure => omega
      case rel =>
        refine ⟨f', y / 128, pre ++ [y % 128 + 128], by omega, HY.out, by omega, by rw [show ((y / 128 : Nat) : Int) = (y : Int) / 128 by omega], by rw [List.append_assoc]; exact HP.out, by simp; omega, ?_, (HLw.out.alloc hsz _).grown hgrow (by simp; omega) (fun q hq => own_base HV.out q hq)⟩
        rw [bv_append, List.length_append]
        exact hown1

set_option maxRecDepth 100000 in
set_option maxHeartbeats 1600000 in
theorem rjoin_gen (A A2 : Option Addr) (n c n2 c2 : Nat) (l l2 : List Nat) (w : World) (hr : Rd w 1 A n (bv l)) (hr2 : Rd w 1 A2 n2 (bv l2)) (hl : l.length = n) (hl2 : l2.length = n2) (hn : n ≤ 1099511627776) (hn2 : n2 ≤ 1099511627776) :
    Calls Tryz.prog 96 #[.slice A n c, .slice A2 n2 c2] w fun e w' => (∃ v, e = .returned v ∧ w'.ownsRow w.heap.size 5 1 v (l ++ l2).length (bv (l ++ l2))) ∧ Below w.heap.size w w' := by
  have HR := hide hr
  have HR2 := hide hr2
  clear hr hr2
  go_enter Tryz.func96, Tryz.ntmps96
  go_wp2_with (first | (at_builtin; refine wpList_append_rd (v := .slice none 0 0) _ rfl (.tmp 6) (.tmp 7) 32 rfl w.heap.size 5 _ 1 1 Tryz.underlying32 info_u8 rfl (by decide) rfl (own_nil _ _ _ _) rfl HR.out (bv_one _) ?c1 ?c2 ?c3 ?_; (case c1 => simp only [maxLen]; omega); (case c2 => omega); (case c3 => simp); intro v1 w1 hown1 hg1 hat1; simp only [Nat.zero_add, List.nil_append] at hown1; obtain ⟨A5, c5, rfl, hc5⟩ := own_slice hown1; have HO := hide hown1; have HB := hide (bG (Below.refl w.heap.size w) (own_nil w w.heap.size 5 1) (Nat.le_refl _) hg1); have HR3 := hide (HR2.out.below HB.out); clear hown1 hg1 hat1) | (at_builtin; refine wpList_append_rd (v := .slice A5 n c5) _ rfl (.tmp 9) (.tmp 10) 32 rfl w.heap.size 5 _ 1 1 Tryz.underlying32 info_u8 rfl (by decide) rfl HO.out rfl HR3.out (bv_one _) ?c1 ?c2 ?c3 ?_; (case c1 => simp only [maxLen]; omega); (case c2 => omega); (case c3 => exact HB.out.size); intro v2 w2 hown2 hg2 hat2))
  go_ret
  rw [← bv_append] at hown2
  have e : n + n2 = (l ++ l2).length := by simp [hl, hl2]
  rw [e] at hown2
  exact ⟨⟨_, rfl, hown2⟩, bG HB.out HO.out (Nat.le_refl _) hg2⟩
theorem rjoin_any (A A2 : Option Addr) (n c n2 c2 : Nat) (l l2 : List Nat) (w : World) (hr : Rd w 1 A n (bv l)) (hr2 : Rd w 1 A2 n2 (bv l2)) (hl : l.length = n) (hl2 : l2.length = n2) (hn : n ≤ 1099511627776) (hn2 : n2 ≤ 1099511627776) (h1 : 1 ≤ n + n2) :
    Calls Tryz.prog 96 #[.slice A n c, .slice A2 n2 c2] w (Bytes w.heap.size (l ++ l2) w) := by
  refine (rjoin_gen A A2 n c n2 c2 l l2 w hr hr2 hl hl2 hn hn2).mono ?_
  rintro e w2 ⟨⟨v, rfl, hown⟩, hb⟩
  obtain ⟨g, cap, rfl⟩ := own_form hown (by simp [hl, hl2]; omega)
  exact ⟨⟨g, cap, rfl, hown⟩, hb⟩

theorem Bytes.low {B B' : Nat} {l : List Nat} {w w1 : World} {e : Ending} {w' : World} (h : Bytes B' l w1 e w') (hb : Below B w w1) (hB : B ≤ B') : Bytes B l w e w' := by
  obtain ⟨⟨g, c, rfl, hown⟩, hb2⟩ := h
  exact ⟨⟨g, c, rfl, own_low hown hB⟩, hb.trans (hb2.mono hB)⟩

theorem rfolded_any (n : Nat) (w : World) (hn : n < 4611686018427387904) : Calls Tryz.prog 98 #[.int .i64 (n : Int)] w fun e w' => e = .returned (.int .u64 ((2 * n : Nat) : Int)) ∧ w' = w := by
  have h1 : 0 ≤ (n : Int) := by omega
  go_enter Tryz.func98, Tryz.ntmps98
  go_wp2_with fail
  go_ret
  exact ⟨by simp, rfl⟩

set_option maxHeartbeats 1000000 in
theorem rputUint_any (A : Option Addr) (m c x : Nat) (l : List Nat) (w : World) (hr : Rd w 1 A m (bv l)) (hl : l.length = m) (hm : m ≤ 1099511627776) (hx : x < 18446744073709551616) :
    Calls Tryz.prog 99 #[.slice A m c, .int .u64 (x : Int)] w (Bytes w.heap.size (l ++ grp x) w) := by
  have HR := hide hr
  have hg := grp_len x
  clear hr
  go_enter Tryz.func99, Tryz.ntmps99
  go_wp2_with fail
  refine (rgroups_any x _ hx).mono ?_
  rintro e w2 ⟨⟨g, c2, rfl, hown⟩, hb⟩
  have HO := hide hown
  have HB := hide hb
  clear hown hb
  go_wp2_with fail
  refine (rjoin_any A (some ⟨g, 0, none⟩) m c _ c2 l (grp x) _ (HR.out.below HB.out) (Rd.of_own HO.out) hl rfl hm (by omega) (by omega)).mono ?_
  intro e w3 hB3
  obtain ⟨⟨g3, c3, rfl, hown3⟩, hb3⟩ := hB3.low HB.out HB.out.size
  go_wp2_with fail
  go_ret
  exact ⟨⟨g3, c3, by rw [List.length_append, hl]; rfl, hown3⟩, hb3⟩

set_option maxHeartbeats 1000000 in
theorem rputInt_any (A : Option Addr) (m c n : Nat) (l : List Nat) (w : World) (hr : Rd w 1 A m (bv l)) (hl : l.length = m) (hm : m ≤ 1099511627776) (hn : n < 4611686018427387904) :
    Calls Tryz.prog 63 #[.slice A m c, .int .i64 (n : Int)] w (Bytes w.heap.size (l ++ grp (2 * n)) w) := by
  have HR := hide hr
  have hf := rfolded_any n w hn
  obtain ⟨x, hx⟩ : ∃ x, x = 2 * n := ⟨_, rfl⟩
  have hx2 : x < 18446744073709551616 := by omega
  rw [← hx] at hf ⊢
  have hg := grp_len x
  clear hr hx
  go_enter Tryz.func63, Tryz.ntmps63
  go_wp2_with fail
  refine hf.mono ?_
  rintro e w1 ⟨rfl, rfl⟩
  clear hf
  go_wp2_with fail
  refine (rgroups_any x _ hx2).mono ?_
  rintro e w2 ⟨⟨g, c2, rfl, hown⟩, hb⟩
  have HO := hide hown
  have HB := hide hb
  clear hown hb
  go_wp2_with fail
  refine (rjoin_any A (some ⟨g, 0, none⟩) m c _ c2 l (grp x) _ (HR.out.below HB.out) (Rd.of_own HO.out) hl rfl hm (by omega) (by omega)).mono ?_
  intro e w3 hB3
  obtain ⟨⟨g3, c3, rfl, hown3⟩, hb3⟩ := hB3.low HB.out HB.out.size
  go_wp2_with fail
  go_ret
  exact ⟨⟨g3, c3, by rw [List.length_append, hl]; rfl, hown3⟩, hb3⟩

/-- '[]byte(s)': the text's bytes in a row of their own. -/
theorem conv_text (s : ByteArray) (w : World) : ∃ cap w', (convert 9 32 (.string s)).run Tryz.prog w = .ok (.slice (some ⟨w.heap.size, 0, none⟩) s.size cap) w' ∧ Below w.heap.size w w' ∧ Rd w' 1 (some ⟨w.heap.size, 0, none⟩) s.size (bv (sb s)) := by
  refine ⟨_, _, run_bytes_of_string w 9 32 5 s Tryz.underlying9 Tryz.underlying32 Tryz.underlying5, bA (bD (Below.refl _ _)) _, by simp, fun h => ⟨_, rfl, fun j u hu => ?_⟩⟩
  have e1 : (⟨w.heap.size, 0, none⟩ : Addr).add j = ⟨w.heap.size, j, none⟩ := by unfold Addr.add; split <;> simp_all
  rw [e1]
  have hb : (w.drew.alloc (.cells (bytesRow s (grownCap w s.size 0 5)) 5 ((bytesRow s (grownCap w s.size 0 5)).size, (bytesRow s (grownCap w s.size 0 5)).size + 1))).heap[w.heap.size]? = some (.cells (bytesRow s (grownCap w s.size 0 5)) 5 ((bytesRow s (grownCap w s.size 0 5)).size, (bytesRow s (grownCap w s.size 0 5)).size + 1)) := heap_alloc_new w.drew _
  rw [cell_of_row _ _ j _ _ _ hb]
  have hj : j < s.data.size := by have := (List.getElem?_eq_some_iff.1 hu).1; simpa using this
  rw [bytesRow_at s _ j hj, ← hu]
  simp [bv, sb]
  rw [Array.getElem?_eq_getElem hj]
  rfl

set_option maxRecDepth 100000 in
set_option maxHeartbeats 1000000 in
theorem rputText_any (A : Option Addr) (m c : Nat) (s : ByteArray) (l : List Nat) (w : World) (hr : Rd w 1 A m (bv l)) (hl : l.length = m) (hm : m ≤ 549755813888) (hs : s.size ≤ 1000000000) :
    Calls Tryz.prog 66 #[.slice A m c, .string s] w (Bytes w.heap.size (l ++ (grp s.size ++ sb s)) w) := by
  have HR := hide hr
  have hg := grp_len s.size
  clear hr
  go_enter Tryz.func66, Tryz.ntmps66
  go_wp2_with fail
  refine (rputUint_any A m c s.size l _ HR.out hl (by omega) (by omega)).mono ?_
  rintro e w2 ⟨⟨g, c2, rfl, hown⟩, hb⟩
  have HO := hide hown
  have HB := hide hb
  clear hown hb
  obtain ⟨cap2, w3, hrun, hb3, hr3⟩ := conv_text s w2
  have HB3 := hide (HB.out.trans (hb3.mono HB.out.size))
  have HR3 := hide hr3
  have hlen : (l ++ grp s.size).length = m + (grp s.size).length := by simp [hl]
  have ho3 := (Rd.of_own HO.out).below hb3
  rw [hlen] at ho3
  have HO3 := hide ho3
  have HLen := hide hlen
  clear hb3 hr3 ho3 hlen
  go_wp2_with fail
  refine (rjoin_any (some ⟨g, 0, none⟩) (some ⟨w2.heap.size, 0, none⟩) (m + (grp s.size).length) c2 s.size cap2 (l ++ grp s.size) (sb s) _ HO3.out HR3.out HLen.out (by simp) (by omega) (by omega) (by omega)).mono ?_
  intro e w4 hB4
  obtain ⟨⟨g4, c4, rfl, hown4⟩, hb4⟩ := hB4.low HB3.out HB3.out.size
  go_wp2_with fail
  go_ret
  rw [List.append_assoc] at hown4
  exact ⟨⟨g4, c4, by simp only [List.length_append, hl, sb_length]; rfl, hown4⟩, hb4⟩

set_option maxRecDepth 100000 in
set_option maxHeartbeats 3200000 in
theorem rputWord_any (A : Option Addr) (m c x : Nat) (l : List Nat) (w : World) (hr : Rd w 1 A m (bv l)) (hl : l.length = m) (hm : m ≤ 1099511627776) (hx : x < 18446744073709551616) :
    Calls Tryz.prog 70 #[.slice A m c, .int .u64 (x : Int)] w (Bytes w.heap.size (l ++ le 8 x) w) := by
  obtain ⟨i0, hi0, hz0, hz1, hz2⟩ := info_parts info_u8
  have HR := hide hr
  clear hr
  go_enter Tryz.func70, Tryz.ntmps70
  go_wp2_with fail
  refine (rjoin_gen A none m c 0 0 l [] _ HR.out (Rd.none_ _ _) hl rfl hm (by omega)).mono ?_
  rintro e w1 ⟨⟨v, rfl, hown⟩, hb⟩
  rw [List.append_nil, hl] at hown
  have HO := hide hown
  have HB := hide hb
  clear hown hb
  go_wp2_with fail
  go_loopg [1, 5, 6] 8 (fun gf n b i wr => ∃ (j y : Nat) (pre : List Nat), 8 ≤ j + gf ∧ j ≤ 8 ∧ y < 18446744073709551616 ∧ i = .int .i64 (j : Int) ∧ n = .int .u64 (y : Int) ∧ pre ++ le (8 - j) y = le 8 x ∧ pre.length = j ∧ wr.ownsRow w.heap.size 5 1 b (m + j) (bv (l ++ pre)) ∧ Below w.heap.size w wr)
  case atStart => exact ⟨0, x, [], by omega, by omega, hx, rfl, rfl, by simp, rfl, by simpa using HO.out, HB.out⟩
  case round =>
    obtain ⟨j, y, pre, hg, hj, hy, rfl, rfl, hp, hpl, hv, hlow⟩ := hrel
    by_cases hlt : j < 8
    · have h1 : (j : Int) < 8 := by omega
      have hvA : ∀ o : Obj, (wr.alloc o).ownsRow w.heap.size 5 1 u5 (m + j) (bv (l ++ pre)) := fun o => own_below hv (bA (Below.refl _ _) o)
      have hsz : w.heap.size ≤ wr.heap.size := hlow.size
      obtain ⟨d, hd⟩ : ∃ d, 8 - j = d + 1 := ⟨8 - j - 1, by omega⟩
      rw [hd] at hp
      simp only [le] at hp
      have HV := hide hv
      have HLw := hide hlow
      have HP := hide hp
      clear hv hlow hp
      go_wp2_with (at_builtin; refine wpList_append_lies _ rfl _ _ _ rfl w.heap.size 5 i0 _ 1 1 Tryz.underlying32 hi0 hz0 hz1 hz2 rfl (by omega) u5 (m + j) (bv (l ++ pre)) rfl (hvA _) ⟨wr.heap.size, 0, none⟩ 1 1 [.int .u8 ((y : Int) % 256)] rfl rfl (by have := World.news_of_block (cs := #[.int .u8 ((y : Int) % 256)]) (t := 5) (fr := (0, 0)) (heap_alloc_new wr _); simpa using this) (by simp [Value.oneCell']) (by omega) (by simp only [maxLen]; omega) (by omega) (by simp; omega) (wr.heap.size + 1) (by simp) ?_; intro g' cap wx hown1 hgrow hat hlt')
      go_roundg (gk - 1)
      case measure => omega
      case rel =>
        refine ⟨j + 1, y / 256, pre ++ [y % 256], by omega, by omega, by omega, by go_num, by rw [show ((y / 256 : Nat) : Int) = (y : Int) / 256 by omega], by rw [List.append_assoc, show 8 - (j + 1) = d by omega]; exact HP.out, by simp; omega, ?_, (HLw.out.alloc hsz _).grown hgrow (by simp; omega) (fun q hq => own_base HV.out q hq)⟩
        rw [← List.append_assoc, bv_append]
        exact hown1
    · obtain rfl : j = 8 := by omega
      have HV := hide hv
      have HLw := hide hlow
      have e : pre = le 8 x := by simpa [le] using hp
      clear hv hlow hp
      go_wp2_with fail
      go_ret
      have hown := HV.out
      rw [e, show m + 8 = (l ++ le 8 x).length by simp [hl]] at hown
      obtain ⟨g, cap, hu⟩ := own_form hown (by simp)
      subst hu
      exact ⟨⟨g, cap, rfl, hown⟩, HLw.out⟩
end Go.Proofs.YtnaapkoladiomaaGreatDoor.B
/- The document's codec: a list of levels, a state without holds and remembered requests. -/
namespace Go.Proofs.YtnaapkoladiomaaGreatDoor.B
open Go.RowKit

theorem Bytes.open_ {B : Nat} {y : List Nat} {w w' : World} {e : Ending} (h : Bytes B y w e w') : ∃ g cap N, y.length = N ∧ e = .returned (.slice (some ⟨g, 0, none⟩) N cap) ∧ w'.ownsRow B 5 1 (.slice (some ⟨g, 0, none⟩) N cap) N (bv y) ∧ Below B w w' := by
  obtain ⟨⟨g, cap, rfl, hown⟩, hb⟩ := h
  exact ⟨g, cap, _, rfl, rfl, hown, hb⟩
theorem Bytes.shut {B g cap N : Nat} {y : List Nat} {w w' : World} (hN : y.length = N) (h : w'.ownsRow B 5 1 (.slice (some ⟨g, 0, none⟩) N cap) N (bv y)) (hb : Below B w w') : Bytes B y w (.returned (.slice (some ⟨g, 0, none⟩) N cap)) w' := by
  subst hN
  exact ⟨⟨g, cap, rfl, h⟩, hb⟩

set_option maxRecDepth 100000 in
theorem rcount_any (A : Option Addr) (m c n : Nat) (l : List Nat) (w : World) (hr : Rd w 1 A m (bv l)) (hl : l.length = m) (hm : m ≤ 1099511627776) (hn : n ≤ 1099511627776) :
    Calls Tryz.prog 65 #[.slice A m c, .int .i64 (n : Int)] w (Bytes w.heap.size (l ++ grp n) w) := by
  have H := hide (rputUint_any A m c n l w hr hl hm (by omega))
  clear hr hl
  have e : (n : Int) % 18446744073709551616 = (n : Int) := by omega
  go_enter Tryz.func65, Tryz.ntmps65
  go_wp2_with fail
  refine H.out.mono ?_
  intro e w1 hB
  obtain ⟨g, cap, N, hN, rfl, hown, hb⟩ := hB.open_
  have HO := hide hown
  have HB := hide hb
  have HN := hide hN
  clear hown hb hB hN
  go_wp2_with fail
  go_ret
  exact Bytes.shut HN.out HO.out HB.out

set_option maxRecDepth 100000 in
theorem rwithin_any (A : Option Addr) (m c : Nat) (w : World) (hm : m ≤ 131072) :
    Calls Tryz.prog 69 #[.slice A m c, .int .i64 131072] w fun e w' => e = .returned (.tuple #[.slice A m c, .int .i64 0]) ∧ w' = w := by
  have h1 : (m : Int) ≤ 131072 := by omega
  go_enter Tryz.func69, Tryz.ntmps69
  go_wp2_with fail
  go_ret2
  exact ⟨rfl, rfl⟩

set_option maxRecDepth 100000 in
set_option maxHeartbeats 3200000 in
theorem rlevels_any (A A1 : Option Addr) (m c n c1 : Nat) (L : List (ByteArray × Int × Int)) (l : List Nat) (w : World) (hr : Rd w 1 A m (bv l)) (hl : l.length = m) (hm : m ≤ 1099511) (hr3 : Rd w 3 A1 n (lvC L)) (hL : L.length = n) (hok : ∀ x ∈ L, okLv x) (hn : n ≤ 100000) :
    Calls Tryz.prog 64 #[.slice A m c, .slice A1 n c1] w (Bytes w.heap.size (l ++ (grp n ++ L.flatMap lvB)) w) := by
  have H := hide (rcount_any A m c n l w hr hl (by omega) (by omega))
  have HR3 := hide hr3
  have HL := hide hL
  have HK := hide hok
  have Hl := hide hl
  have hgn := grp_len n
  clear hr hr3 hL hok hl
  go_enter Tryz.func64, Tryz.ntmps64
  go_wp2_with fail
  refine H.out.mono ?_
  intro e w1 hB
  obtain ⟨g, cap, N0, hN0, rfl, hown, hb⟩ := hB.open_
  have HO := hide hown
  have HB := hide hb
  have HN0 := hide hN0
  clear hown hb H hB hN0
  go_wp2_with fail
  go_loopg [0, 5] n (fun gf b i wr => ∃ (k g cap N : Nat) (y : List Nat), n ≤ k + gf ∧ k ≤ n ∧ i = .int .i64 (k : Int) ∧ y = l ++ (grp n ++ (L.take k).flatMap lvB) ∧ y.length = N ∧ b = .slice (some ⟨g, 0, none⟩) N cap ∧ wr.ownsRow w.heap.size 5 1 (.slice (some ⟨g, 0, none⟩) N cap) N (bv y) ∧ Below w.heap.size w wr)
  case atStart => exact ⟨0, g, cap, N0, l ++ grp n, by omega, by omega, rfl, by simp, HN0.out, rfl, HO.out, HB.out⟩
  case round =>
    obtain ⟨k, g, cap, N, y, hg, hk, rfl, hy, hN, rfl, hown, hlow⟩ := hrel
    have HOk := hide hown
    have HW := hide hlow
    have HY := hide hy
    by_cases hlt : k < n
    · obtain ⟨⟨s, a, b⟩, hx⟩ : ∃ x, L[k]? = some x := ⟨L[k]'(by rw [HL.out]; exact hlt), List.getElem?_eq_getElem _⟩
      obtain ⟨o1, o2, o3, o4, o5⟩ := HK.out _ (List.mem_of_getElem? hx)
      simp only at o1 o2 o3 o4 o5
      obtain ⟨a, rfl⟩ := Int.eq_ofNat_of_zero_le o2
      obtain ⟨b, rfl⟩ := Int.eq_ofNat_of_zero_le o4
      have A4 := hide (show a < 4611686018427387904 by omega)
      have B4 := hide (show b < 4611686018427387904 by omega)
      clear o2 o3 o4 o5
      obtain ⟨g1, g2, g3⟩ := lvC_get L k hx
      obtain ⟨ad, rfl, hc⟩ := (HR3.out.below hlow).cells (by omega)
      have q1 := hc _ _ g1
      have q2 := hc _ _ g2
      have q3 := hc _ _ g3
      rw [add_next ad (k * 3) (by omega)] at q2 q3
      have hNb : N ≤ 1099511 + 10 + k * 1030 := by
        have h1 := lvBs_len (L.take k) (fun x hx => HK.out x (List.mem_of_mem_take hx))
        have h2 : (L.take k).length = k := by rw [List.length_take, HL.out]; omega
        rw [h2] at h1
        have := Hl.out
        rw [← hN, hy]
        simp only [List.length_append]
        omega
      have hs := grp_len s.size
      have ha := grp_len (2 * a)
      have HX := hide hx
      clear hc g1 g2 g3 hown hlow hy hx
      go_wp2_with fail
      refine (rputText_any (some ⟨g, 0, none⟩) N cap s y _ (Rd.of_own HOk.out) hN (by omega) (by omega)).mono ?_
      intro e w2 hB
      obtain ⟨g2, cap2, N2, hN2, rfl, hown, hb⟩ := hB.open_
      have HO2 := hide hown
      have HB2 := hide hb
      have p2 := bget hb q2
      have p3 := bget hb q3
      have hl2 : N2 ≤ 110110000 := by rw [← hN2]; simp only [List.length_append, hN, sb_length]; omega
      obtain ⟨y2, hy2⟩ : ∃ y2, y2 = y ++ (grp s.size ++ sb s) := ⟨_, rfl⟩
      rw [← hy2] at HO2 hN2
      have HN2 := hide hN2
      have HY2 := hide hy2
      clear hown hb hB q1 q2 q3 hN2 hy2
      go_wp2_with fail
      refine (rputInt_any (some ⟨g2, 0, none⟩) N2 cap2 a y2 _ (Rd.of_own HO2.out) HN2.out (by omega) A4.out).mono ?_
      intro e w3 hB
      obtain ⟨g3, cap3, N3, hN3, rfl, hown, hb⟩ := hB.open_
      have HO3 := hide hown
      have HB3 := hide (bT HB2.out hb)
      have p3' := bget hb p3
      have hl3 : N3 ≤ 110120000 := by rw [← hN3]; simp only [List.length_append, HN2.out]; omega
      obtain ⟨y3, hy3⟩ : ∃ y3, y3 = y2 ++ grp (2 * a) := ⟨_, rfl⟩
      rw [← hy3] at HO3 hN3
      have HN3 := hide hN3
      have HY3 := hide hy3
      clear hown hb hB p2 p3 hN3 hy3
      go_wp2_with fail
      refine (rputInt_any (some ⟨g3, 0, none⟩) N3 cap3 b y3 _ (Rd.of_own HO3.out) HN3.out (by omega) B4.out).mono ?_
      intro e w4 hB
      obtain ⟨g4, cap4, N4, hN4, rfl, hown, hb⟩ := hB.open_
      have HN4 := hide hN4
      have HO4 := hide hown
      have HB4 := hide (bT HW.out (bT HB3.out hb))
      have HS := hide (Nat.le_trans HW.out.size (Nat.le_trans HB3.out.size (Nat.le_refl _)))
      have HYY := hide (show y3 ++ grp (2 * b) = l ++ (grp n ++ (L.take (k + 1)).flatMap lvB) by
        rw [takeSnoc L k HX.out, HY3.out, HY2.out, HY.out]
        simp [lvB, List.append_assoc])
      clear hown hb hB hN4
      go_wp2_with fail
      go_roundg (gk - 1)
      case measure => omega
      case rel => exact ⟨k + 1, g4, cap4, N4, y3 ++ grp (2 * b), by omega, by omega, by go_num, HYY.out, HN4.out, rfl, own_low HO4.out HS.out, HB4.out⟩
    · obtain rfl : k = n := by omega
      clear hown hlow
      have ht : L.take k = L := List.take_of_length_le (by rw [HL.out]; omega)
      have HY' := hide (show y = l ++ (grp k ++ L.flatMap lvB) by rw [hy, ht])
      have HN' := hide hN
      clear hy hN
      go_wp2_with fail
      go_ret
      have h1 := HN'.out
      have h2 := HOk.out
      rw [HY'.out] at h1 h2
      exact Bytes.shut h1 h2 HW.out

set_option maxRecDepth 100000 in
set_option maxHeartbeats 6400000 in
theorem rputState_any (room lsn now : Nat) (A : Option Addr) (n c : Nat) (L : List (ByteArray × Int × Int)) (w : World) (hr : Rd w 3 A n (lvC L)) (hL : L.length = n) (hok : ∀ x ∈ L, okLv x) (hn : n ≤ 1000)
    (h1 : room < 4611686018427387904) (h2 : lsn < 4611686018427387904) (h3 : now < 4611686018427387904) (hm : (84 :: stB room lsn now L).length ≤ 131072) :
    Calls Tryz.prog 29 #[stV (room : Int) (lsn : Int) (now : Int) A n c] w (Coded w.heap.size (84 :: stB room lsn now L) w) := by
  have HL := hide hL
  have HK := hide hok
  have HM := hide hm
  have H1 := hide h1
  have H2 := hide h2
  have H3 := hide h3
  have k1 := grp_len (2 * room)
  have k2 := grp_len (2 * lsn)
  have k3 := grp_len (2 * now)
  have k4 := grp_len n
  have k5 := grp_len 0
  have k6 := lvBs_len L hok
  rw [hL] at k6
  have HB0 := hide (bA (bA (Below.refl w.heap.size w) (.cells (stC (room : Int) (lsn : Int) (now : Int) A n c) 29)) (.cells #[.int .u8 84] 5))
  have HS0 := hide ((Blk.new1 (w := w) rfl 29 (stC (room : Int) (lsn : Int) (now : Int) A n c)).alloc (.cells #[.int .u8 84] 5))
  have HR := hide hr
  have HR0 := hide (show Rd ((w.alloc (.cells (stC (room : Int) (lsn : Int) (now : Int) A n c) 29)).alloc (.cells #[.int .u8 84] 5)) 1 (some ⟨w.heap.size + 1, 0, none⟩) 1 (bv [84]) from
    Rd.of_blk (Blk.new1 (w := w.alloc (.cells (stC (room : Int) (lsn : Int) (now : Int) A n c) 29)) (g := w.heap.size + 1) (by simp) 5 #[.int .u8 84]) rfl rfl)
  have HN0 := hide (show [84].length = 1 from rfl)
  clear hL hok hr hm h1 h2 h3
  go_enter Tryz.func29, Tryz.ntmps29
  go_wp2_with fail
  refine (rputInt_any (some ⟨w.heap.size + 1, 0, none⟩) 1 1 room [84] _ HR0.out rfl (by omega) H1.out).mono ?_
  intro e w1 hB
  obtain ⟨g1, cap1, N1, hN1, rfl, hown, hb⟩ := hB.open_
  have HO1 := hide hown
  have HB1 := hide hb
  have HS1 := hide (HS0.out.below hb)
  have hl1 : N1 ≤ 11 := by rw [← hN1]; simp only [List.length_append, HN0.out]; omega
  obtain ⟨y1, hy1⟩ : ∃ y, y = [84] ++ grp (2 * room) := ⟨_, rfl⟩
  rw [← hy1] at HO1 hN1
  have HN1 := hide hN1
  have HY1 := hide hy1
  clear hown hb hB hN1 hy1
  have s0 : w1.cell? ⟨w.heap.size, 0, none⟩ = some (.int .i64 (room : Int)) := HS1.out.cell 0
  have s1 : w1.cell? ⟨w.heap.size, 1, none⟩ = some (.int .i64 (lsn : Int)) := HS1.out.cell 1
  have s2 : w1.cell? ⟨w.heap.size, 2, none⟩ = some (.int .i64 (now : Int)) := HS1.out.cell 2
  have s3 : w1.cell? ⟨w.heap.size, 3, none⟩ = some (.slice A n c) := HS1.out.cell 3
  have s4 : w1.cell? ⟨w.heap.size, 4, none⟩ = some (.slice none 0 0) := HS1.out.cell 4
  have s5 : w1.cell? ⟨w.heap.size, 5, none⟩ = some (.slice none 0 0) := HS1.out.cell 5
  go_wp2_with fail
  refine (rputInt_any (some ⟨g1, 0, none⟩) N1 cap1 lsn y1 _ (Rd.of_own HO1.out) HN1.out (by omega) H2.out).mono ?_
  intro e w2 hB
  obtain ⟨g2, cap2, N2, hN2, rfl, hown, hb⟩ := hB.open_
  have HO2 := hide hown
  have HB2 := hide hb
  have HS2 := hide (HS1.out.below hb)
  have hl2 : N2 ≤ 21 := by rw [← hN2]; simp only [List.length_append, HN1.out]; omega
  obtain ⟨y2, hy2⟩ : ∃ y, y = y1 ++ grp (2 * lsn) := ⟨_, rfl⟩
  rw [← hy2] at HO2 hN2
  have HN2 := hide hN2
  have HY2 := hide hy2
  clear hown hb hB hN2 hy2
  clear s0 s1 s2 s3 s4 s5
  have s0 : w2.cell? ⟨w.heap.size, 0, none⟩ = some (.int .i64 (room : Int)) := HS2.out.cell 0
  have s1 : w2.cell? ⟨w.heap.size, 1, none⟩ = some (.int .i64 (lsn : Int)) := HS2.out.cell 1
  have s2 : w2.cell? ⟨w.heap.size, 2, none⟩ = some (.int .i64 (now : Int)) := HS2.out.cell 2
  have s3 : w2.cell? ⟨w.heap.size, 3, none⟩ = some (.slice A n c) := HS2.out.cell 3
  have s4 : w2.cell? ⟨w.heap.size, 4, none⟩ = some (.slice none 0 0) := HS2.out.cell 4
  have s5 : w2.cell? ⟨w.heap.size, 5, none⟩ = some (.slice none 0 0) := HS2.out.cell 5
  go_wp2_with fail
  refine (rputInt_any (some ⟨g2, 0, none⟩) N2 cap2 now y2 _ (Rd.of_own HO2.out) HN2.out (by omega) H3.out).mono ?_
  intro e w3 hB
  obtain ⟨g3, cap3, N3, hN3, rfl, hown, hb⟩ := hB.open_
  have HO3 := hide hown
  have HB3 := hide hb
  have HS3 := hide (HS2.out.below hb)
  have hl3 : N3 ≤ 31 := by rw [← hN3]; simp only [List.length_append, HN2.out]; omega
  obtain ⟨y3, hy3⟩ : ∃ y, y = y2 ++ grp (2 * now) := ⟨_, rfl⟩
  rw [← hy3] at HO3 hN3
  have HN3 := hide hN3
  have HY3 := hide hy3
  clear hown hb hB hN3 hy3
  clear s0 s1 s2 s3 s4 s5
  have s0 : w3.cell? ⟨w.heap.size, 0, none⟩ = some (.int .i64 (room : Int)) := HS3.out.cell 0
  have s1 : w3.cell? ⟨w.heap.size, 1, none⟩ = some (.int .i64 (lsn : Int)) := HS3.out.cell 1
  have s2 : w3.cell? ⟨w.heap.size, 2, none⟩ = some (.int .i64 (now : Int)) := HS3.out.cell 2
  have s3 : w3.cell? ⟨w.heap.size, 3, none⟩ = some (.slice A n c) := HS3.out.cell 3
  have s4 : w3.cell? ⟨w.heap.size, 4, none⟩ = some (.slice none 0 0) := HS3.out.cell 4
  have s5 : w3.cell? ⟨w.heap.size, 5, none⟩ = some (.slice none 0 0) := HS3.out.cell 5
  go_wp2_with fail
  refine (rlevels_any (some ⟨g3, 0, none⟩) A N3 cap3 n c L y3 _ (Rd.of_own HO3.out) HN3.out (by omega) (HR.out.below (bT (bT (bT HB0.out HB1.out) HB2.out) HB3.out)) HL.out HK.out (by omega)).mono ?_
  intro e w4 hB
  obtain ⟨g4, cap4, N4, hN4, rfl, hown, hb⟩ := hB.open_
  have HO4 := hide hown
  have HB4 := hide hb
  have HS4 := hide (HS3.out.below hb)
  have hl4 : N4 ≤ 1100000 := by rw [← hN4]; simp only [List.length_append, HN3.out]; omega
  obtain ⟨y4, hy4⟩ : ∃ y, y = y3 ++ (grp n ++ L.flatMap lvB) := ⟨_, rfl⟩
  rw [← hy4] at HO4 hN4
  have HN4 := hide hN4
  have HY4 := hide hy4
  clear hown hb hB hN4 hy4
  clear s0 s1 s2 s3 s4 s5
  have s0 : w4.cell? ⟨w.heap.size, 0, none⟩ = some (.int .i64 (room : Int)) := HS4.out.cell 0
  have s1 : w4.cell? ⟨w.heap.size, 1, none⟩ = some (.int .i64 (lsn : Int)) := HS4.out.cell 1
  have s2 : w4.cell? ⟨w.heap.size, 2, none⟩ = some (.int .i64 (now : Int)) := HS4.out.cell 2
  have s3 : w4.cell? ⟨w.heap.size, 3, none⟩ = some (.slice A n c) := HS4.out.cell 3
  have s4 : w4.cell? ⟨w.heap.size, 4, none⟩ = some (.slice none 0 0) := HS4.out.cell 4
  have s5 : w4.cell? ⟨w.heap.size, 5, none⟩ = some (.slice none 0 0) := HS4.out.cell 5
  go_wp2_with fail
  refine (rcount_any (some ⟨g4, 0, none⟩) N4 cap4 0 y4 _ (Rd.of_own HO4.out) HN4.out (by omega) (by omega)).mono ?_
  intro e w5 hB
  obtain ⟨g5, cap5, N5, hN5, rfl, hown, hb⟩ := hB.open_
  have HO5 := hide hown
  have HB5 := hide hb
  have HS5 := hide (HS4.out.below hb)
  have hl5 : N5 ≤ 1100010 := by rw [← hN5]; simp only [List.length_append, HN4.out]; omega
  obtain ⟨y5, hy5⟩ : ∃ y, y = y4 ++ grp 0 := ⟨_, rfl⟩
  rw [← hy5] at HO5 hN5
  have HN5 := hide hN5
  have HY5 := hide hy5
  clear hown hb hB hN5 hy5
  clear s0 s1 s2 s3 s4 s5
  have s0 : w5.cell? ⟨w.heap.size, 0, none⟩ = some (.int .i64 (room : Int)) := HS5.out.cell 0
  have s1 : w5.cell? ⟨w.heap.size, 1, none⟩ = some (.int .i64 (lsn : Int)) := HS5.out.cell 1
  have s2 : w5.cell? ⟨w.heap.size, 2, none⟩ = some (.int .i64 (now : Int)) := HS5.out.cell 2
  have s3 : w5.cell? ⟨w.heap.size, 3, none⟩ = some (.slice A n c) := HS5.out.cell 3
  have s4 : w5.cell? ⟨w.heap.size, 4, none⟩ = some (.slice none 0 0) := HS5.out.cell 4
  have s5 : w5.cell? ⟨w.heap.size, 5, none⟩ = some (.slice none 0 0) := HS5.out.cell 5
  go_wp2_with fail
  go_loopg [4, 5] 0 (fun gf b i W => i = .int .i64 0 ∧ b = .slice (some ⟨g5, 0, none⟩) N5 cap5 ∧ w5 = W)
  case atStart => exact ⟨rfl, rfl, rfl⟩
  case round =>
    obtain ⟨rfl, rfl, rfl⟩ := hrel
    go_wp2_with fail
    refine (rcount_any (some ⟨g5, 0, none⟩) N5 cap5 0 y5 _ (Rd.of_own HO5.out) HN5.out (by omega) (by omega)).mono ?_
    intro e w6 hB
    obtain ⟨g6, cap6, N6, hN6, rfl, hown, hb⟩ := hB.open_
    have HO6 := hide hown
    have HB6 := hide hb
    have HS6 := hide (HS5.out.below hb)
    have hl6 : N6 ≤ 1100020 := by rw [← hN6]; simp only [List.length_append, HN5.out]; omega
    obtain ⟨y6, hy6⟩ : ∃ y, y = y5 ++ grp 0 := ⟨_, rfl⟩
    rw [← hy6] at HO6 hN6
    have HN6 := hide hN6
    have HY6 := hide hy6
    clear hown hb hB hN6 hy6
    clear s0 s1 s2 s3 s4 s5
    have s0 : w6.cell? ⟨w.heap.size, 0, none⟩ = some (.int .i64 (room : Int)) := HS6.out.cell 0
    have s1 : w6.cell? ⟨w.heap.size, 1, none⟩ = some (.int .i64 (lsn : Int)) := HS6.out.cell 1
    have s2 : w6.cell? ⟨w.heap.size, 2, none⟩ = some (.int .i64 (now : Int)) := HS6.out.cell 2
    have s3 : w6.cell? ⟨w.heap.size, 3, none⟩ = some (.slice A n c) := HS6.out.cell 3
    have s4 : w6.cell? ⟨w.heap.size, 4, none⟩ = some (.slice none 0 0) := HS6.out.cell 4
    have s5 : w6.cell? ⟨w.heap.size, 5, none⟩ = some (.slice none 0 0) := HS6.out.cell 5
    go_wp2_with fail

    go_loopg [4, 6] 0 (fun gf b i W => i = .int .i64 0 ∧ b = .slice (some ⟨g6, 0, none⟩) N6 cap6 ∧ w6 = W)
    case atStart => exact ⟨rfl, rfl, rfl⟩
    case round =>
      obtain ⟨rfl, rfl, rfl⟩ := hrel
      have HYY := hide (show y6 = 84 :: stB room lsn now L by
        rw [HY6.out, HY5.out, HY4.out, HY3.out, HY2.out, HY1.out]
        have e0 : grp 0 = [0] := rfl
        simp [stB, e0, List.append_assoc, HL.out])
      have hN : N6 ≤ 131072 := by
        have h1 := HN6.out
        rw [HYY.out] at h1
        rw [← h1]
        exact HM.out
      have HBB := hide (bT (bT (bT (bT (bT (bT HB0.out HB1.out) HB2.out) HB3.out) HB4.out) HB5.out) HB6.out)
      go_wp2_with fail
      refine (rwithin_any (some ⟨g6, 0, none⟩) N6 cap6 _ hN).mono ?_
      rintro e w7 ⟨rfl, rfl⟩
      go_wp2_with fail
      go_ret2
      have h1 := HN6.out
      have h2 := HO6.out
      rw [HYY.out] at h1 h2
      subst h1
      exact ⟨⟨g6, cap6, rfl, own_low h2 (bT (bT (bT (bT (bT HB0.out HB1.out) HB2.out) HB3.out) HB4.out) HB5.out).size⟩, HBB.out⟩
end Go.Proofs.YtnaapkoladiomaaGreatDoor.B
/- The document's sum, bit by bit. -/
namespace Go.Proofs.YtnaapkoladiomaaGreatDoor.B
open Go.RowKit

def stepN : Nat → Nat → Nat
  | 0, r => r
  | k + 1, r => step1 (stepN k r)
theorem stepN8 (r : Nat) : stepN 8 r = step8 r := rfl
theorem step1_lt (r : Nat) (h : r < 4294967296) : step1 r < 4294967296 := by
  unfold step1
  split
  · exact Nat.xor_lt_two_pow (n := 32) (by omega) (by omega)
  · omega
theorem stepN_lt (k r : Nat) (h : r < 4294967296) : stepN k r < 4294967296 := by
  induction k with
  | zero => exact h
  | succ k ih => exact step1_lt _ ih
theorem and1 (r : Nat) (h : r < 4294967296) : bits BinOp.and IntKind.u32 (r : Int) 1 = ((r % 2 : Nat) : Int) := by
  have e : bits BinOp.and IntKind.u32 (r : Int) 1 = IntKind.u32.wrap (((BitVec.ofInt 32 (r : Int)) &&& (1#32)).toNat : Int) := rfl
  rw [e, BitVec.toNat_and, BitVec.toNat_ofInt]
  have e2 : ((r : Int) % ((2 ^ 32 : Nat) : Int)).toNat = r := by omega
  have e3 : r &&& 1 = r % 2 := Nat.and_two_pow_sub_one_eq_mod r 1
  rw [e2]
  simp only [BitVec.toNat_ofNat]
  rw [show 1 % 2 ^ 32 = 1 from rfl, e3]
  simp [IntKind.wrap, IntKind.bits, IntKind.signed]
  omega

set_option maxRecDepth 100000 in
set_option maxHeartbeats 3200000 in
theorem ron_any (A : Option Addr) (n c r0 : Nat) (l : List Nat) (w : World) (hr : Rd w 1 A n (bv l)) (hl : l.length = n) (hb : ∀ b ∈ l, b < 256) (hn : n ≤ 1099511627776) (h0 : r0 < 4294967296) :
    Calls Tryz.prog 100 #[.int .u32 (r0 : Int), .slice A n c] w fun e w' => e = .returned (.int .u32 (crcOn r0 l : Nat)) ∧ w' = w := by
  have HR := hide hr
  have HL := hide hl
  have HB := hide hb
  clear hr hl hb
  go_enter Tryz.func100, Tryz.ntmps100
  go_wp2_with fail
  go_loopg [0, 5] n (fun gf r i wr => ∃ k : Nat, n ≤ k + gf ∧ k ≤ n ∧ i = .int .i64 (k : Int) ∧ r = .int .u32 (crcOn r0 (l.take k) : Nat) ∧ w = wr)
  case atStart => exact ⟨0, by omega, by omega, rfl, rfl, rfl⟩
  case round =>
    obtain ⟨k, hg, hk, rfl, rfl, rfl⟩ := hrel
    by_cases hlt : k < n
    · obtain ⟨b, hs⟩ : ∃ b, l[k]? = some b := ⟨l[k]'(by rw [HL.out]; exact hlt), List.getElem?_eq_getElem _⟩
      have hb := HB.out b (List.mem_of_getElem? hs)
      obtain ⟨ad, rfl, hc⟩ := HR.out.at_ (k := k) (x := .int .u8 (b : Int)) (by simp [bv, hs])
      have ki0 : (0 : Int) ≤ (k : Int) := by omega
      have ki1 : (k : Int) < (n : Int) := by omega
      have hq := crcOn_lt (l.take k) r0 h0 (fun y hy => HB.out y (List.mem_of_mem_take hy))
      obtain ⟨q, hq0⟩ : ∃ q, q = crcOn r0 (l.take k) := ⟨_, rfl⟩
      rw [← hq0] at hq ⊢
      have hx := xor32 q b hq (by omega)
      have hxl : q ^^^ b < 4294967296 := Nat.xor_lt_two_pow (n := 32) hq (by omega)
      obtain ⟨x, hx0⟩ : ∃ x, x = q ^^^ b := ⟨_, rfl⟩
      rw [← hx0] at hx hxl
      have HS := hide hs
      have HX := hide hx0
      have HQ := hide hq0
      have HG := hide hg
      obtain ⟨go, rfl⟩ : ∃ go, go = gk := ⟨_, rfl⟩
      clear hs hx0 hq0 hg
      go_wp2_with fail
      go_loopg [0, 6] 8 (fun gf r i wr => ∃ j : Nat, 8 ≤ j + gf ∧ j ≤ 8 ∧ i = .int .i64 (j : Int) ∧ r = .int .u32 (stepN j x : Nat) ∧ w = wr)
      case atStart => exact ⟨0, by omega, by omega, rfl, rfl, rfl⟩
      case round =>
        obtain ⟨j, hg2, hj, rfl, rfl, rfl⟩ := hrel
        by_cases hlt2 : j < 8
        · have j1 : (j : Int) < 8 := by omega
          have hy := stepN_lt j x hxl
          obtain ⟨y, hy0⟩ : ∃ y, y = stepN j x := ⟨_, rfl⟩
          rw [← hy0] at hy ⊢
          have ha := and1 y hy
          have HY := hide hy0
          clear hy0
          by_cases hodd : y % 2 = 1
          · rw [hodd] at ha
            have hx2 : bits BinOp.xor IntKind.u32 ((y : Int) / 2) 2197175160 = ((y / 2 ^^^ 2197175160 : Nat) : Int) := by
              rw [show ((y : Int) / 2) = ((y / 2 : Nat) : Int) by omega]
              exact xor32 (y / 2) 2197175160 (by omega) (by omega)
            obtain ⟨z, hz⟩ : ∃ z, z = y / 2 ^^^ 2197175160 := ⟨_, rfl⟩
            rw [← hz] at hx2
            have HZ := hide hz
            clear hz
            go_wp2_with fail
            go_roundg (gk - 1)
            case measure => omega
            case rel => exact ⟨j + 1, by omega, by omega, by go_num, by show Value.int IntKind.u32 (z : Int) = Value.int IntKind.u32 ((step1 (stepN j x) : Nat) : Int); rw [← HY.out, step1, if_pos hodd, ← HZ.out], rfl⟩
          · have hev : y % 2 = 0 := by omega
            rw [hev] at ha
            go_wp2_with fail
            go_roundg (gk - 1)
            case measure => omega
            case rel => exact ⟨j + 1, by omega, by omega, by go_num, by show Value.int IntKind.u32 ((y : Int) / 2) = Value.int IntKind.u32 ((step1 (stepN j x) : Nat) : Int); rw [← HY.out, step1, if_neg hodd, show ((y / 2 : Nat) : Int) = (y : Int) / 2 by omega], rfl⟩
        · obtain rfl : j = 8 := by omega
          have hg := HG.out
          go_wp2_with fail
          go_roundg (go - 1)
          case measure => omega
          case rel => exact ⟨k + 1, by omega, by omega, by go_num, by rw [takeSnoc l k HS.out, crcOn_snoc, ← step8_eq, ← stepN8, ← HQ.out, ← HX.out], rfl⟩
    · obtain rfl : k = n := by omega
      rw [List.take_of_length_le (by rw [HL.out]; exact Nat.le_refl _)]
      go_wp2_with fail
      go_ret
      exact ⟨rfl, rfl⟩

theorem rcrc_any (A : Option Addr) (n c : Nat) (l : List Nat) (w : World) (hr : Rd w 1 A n (bv l)) (hl : l.length = n) (hb : ∀ b ∈ l, b < 256) (hn : n ≤ 1099511627776) :
    Calls Tryz.prog 71 #[.slice A n c] w fun e w' => e = .returned (.int .u32 (crcN l : Nat)) ∧ w' = w := by
  have HC := ron_any A n c 4294967295 l w hr hl hb hn (by omega)
  have hq := crcOn_lt l 4294967295 (by omega) hb
  obtain ⟨q, hq0⟩ : ∃ q, q = crcOn 4294967295 l := ⟨_, rfl⟩
  rw [← hq0] at HC hq
  have hz : bits BinOp.xor IntKind.u32 IntKind.u32.max (q : Int) = ((4294967295 ^^^ q : Nat) : Int) := xor32 4294967295 q (by omega) hq
  have hlast : crcN l = 4294967295 ^^^ q := by rw [hq0]; rfl
  obtain ⟨z, hz0⟩ : ∃ z, z = 4294967295 ^^^ q := ⟨_, rfl⟩
  rw [← hz0] at hz hlast
  rw [hlast]
  clear hq0 hz0 hlast hr hl hb
  go_enter Tryz.func71, Tryz.ntmps71
  go_wp2_with fail
  refine HC.mono ?_
  rintro e w1 ⟨rfl, rfl⟩
  clear HC
  go_wp2_with fail
  go_ret
  exact ⟨rfl, rfl⟩
end Go.Proofs.YtnaapkoladiomaaGreatDoor.B
