/- Lists of codes: slices.IndexFunc and ContainsFunc at 'not a code', rising. -/
import Derived.Test.YtaokjpbgdehhiaaGreatDoorText
import Derived.Deep.QuietTactic
import Derived.BigQuiet
namespace Go.Proofs.YtaokjpbgdehhiaaGreatDoor.B
open Go.RowKit

/-- A number that tells whether all texts of a list are codes: below 0, or a place. -/
def IdxPost (ss : List ByteArray) (w : World) (e : Ending) (w' : World) : Prop :=
  ∃ r : Int, e = .returned (.int .i64 r) ∧ Below w.heap.size w w' ∧ ((r < 0 ∧ ss.all (okText · 40) = true) ∨ (0 ≤ r ∧ ss.all (okText · 40) = false))

theorem all_false {ss : List ByteArray} {s : ByteArray} {k : Nat} (h : ss[k]? = some s) (hs : okText s 40 = false) : ss.all (okText · 40) = false := by
  rw [List.all_eq_false]
  exact ⟨s, List.mem_of_getElem? h, by simp [hs]⟩
theorem all_true {ss : List ByteArray} (h : ∀ (j : Nat) (s : ByteArray), ss[j]? = some s → okText s 40 = true) : ss.all (okText · 40) = true := by
  rw [List.all_eq_true]
  intro s hs
  obtain ⟨j, hj⟩ := List.mem_iff_getElem?.1 hs
  exact h j s hj

set_option maxHeartbeats 1000000 in
theorem idxCodes_any (A : Option Addr) (n c : Nat) (ss : List ByteArray) (w : World) (hl : ss.length = n) (hn : n ≤ 9223372036854775807) (hr : Rd w 1 A n (strs ss)) :
    Calls Tryz.prog 95 #[.slice A n c, .func (.func 46) #[] #[]] w (IdxPost ss w) := by
  have HL := hide hl
  clear hl
  go_enter Tryz.func95, Tryz.ntmps95
  go_wp2
  go_loopg [8] n (fun gf i wx => ∃ k : Nat, n ≤ k + gf ∧ k ≤ n ∧ i = .int .i64 k ∧ Below w.heap.size w wx ∧ ∀ j s, j < k → ss[j]? = some s → okText s 40 = true)
  case atStart => exact ⟨0, by omega, by omega, rfl, Below.refl _ _, fun j s h => by omega⟩
  case round =>
    obtain ⟨k, hg, hk, rfl, hb, hall⟩ := hrel
    by_cases hlt : k < n
    · obtain ⟨s, hs⟩ : ∃ s, ss[k]? = some s := ⟨ss[k]'(by rw [HL.out]; exact hlt), List.getElem?_eq_getElem _⟩
      obtain ⟨ad, rfl, hc⟩ := (hr.below hb).at_ (k := k) (x := .string s) (by rw [strs_get, hs]; rfl)
      have HS := hide hs
      have HA := hide hall
      clear hs hall hr
      cases hok : okText s 40
      · have HK := hide hok
        go_wp2_with fail
        refine (new1_any s _).mono ?_
        rintro e w1 ⟨rfl, hb1⟩
        rw [HK.out]
        clear hok
        go_wp2_with fail
        go_ret
        exact ⟨_, rfl, bT hb hb1, .inr ⟨by omega, all_false HS.out HK.out⟩⟩
      · have HK := hide hok
        go_wp2_with fail
        refine (new1_any s _).mono ?_
        rintro e w1 ⟨rfl, hb1⟩
        rw [HK.out]
        clear hok
        go_wp2_with fail
        go_roundg (gk - 1)
        case measure => omega
        case rel =>
          refine ⟨k + 1, by omega, by omega, by go_num, bT hb hb1, fun j s' hj hs' => ?_⟩
          rcases Nat.lt_or_ge j k with h | h
          · exact HA.out j s' h hs'
          · obtain rfl : j = k := by omega
            have := HS.out.symm.trans hs'
            injection this with this
            rw [← this]; exact HK.out
    · obtain rfl : k = n := by omega
      have HA := hide hall
      clear hall
      go_wp2_with fail
      go_ret
      refine ⟨_, rfl, hb, .inl ⟨by omega, all_true fun j s hs => HA.out j s ?_ hs⟩⟩
      have := (List.getElem?_eq_some_iff.1 hs).1
      rw [HL.out] at this
      exact this

set_option maxHeartbeats 400000 in
theorem contCodes_any (A : Option Addr) (n c : Nat) (ss : List ByteArray) (w : World) (hl : ss.length = n) (hn : n ≤ 9223372036854775807) (hr : Rd w 1 A n (strs ss)) :
    Calls Tryz.prog 45 #[.slice A n c, .func (.func 46) #[] #[]] w fun e w' => e = .returned (.bool (!ss.all (okText · 40))) ∧ Below w.heap.size w w' := by
  have HL := hide hl
  clear hl
  go_enter Tryz.func45, Tryz.ntmps45
  go_wp2_with fail
  refine (idxCodes_any A n c ss _ HL.out hn hr).mono ?_
  rintro e w1 ⟨r, rfl, hb, ⟨hr0, hall⟩ | ⟨hr0, hall⟩⟩
  · have HA := hide hall
    clear hall
    go_wp2_with fail
    go_ret
    exact ⟨by rw [HA.out]; simp <;> omega, hb⟩
  · have HA := hide hall
    clear hall
    go_wp2_with fail
    go_ret
    exact ⟨by rw [HA.out]; simp <;> omega, hb⟩

/-- stock.rising: texts in order, none twice. -/
def lessS (a b : ByteArray) : Bool := Op.bytesLess a.toList b.toList
def rise : List ByteArray → Bool
  | a :: b :: r => lessS a b && rise (b :: r)
  | _ => true
theorem rise_at {ss : List ByteArray} (h : ∀ (k : Nat) (a b : ByteArray), ss[k]? = some a → ss[k + 1]? = some b → lessS a b = true) : rise ss = true := by
  induction ss with
  | nil => rfl
  | cons a r ih =>
    cases r with
    | nil => rfl
    | cons b r =>
      simp only [rise, Bool.and_eq_true]
      exact ⟨h 0 a b rfl rfl, ih fun k x y hx hy => h (k + 1) x y hx hy⟩
theorem rise_not {ss : List ByteArray} {k : Nat} {a b : ByteArray} (ha : ss[k]? = some a) (hb : ss[k + 1]? = some b) (h : lessS a b = false) : rise ss = false := by
  induction ss generalizing k with
  | nil => simp at ha
  | cons x r ih =>
    cases r with
    | nil => simp at hb
    | cons y r =>
      simp only [rise, Bool.and_eq_false_iff]
      cases k with
      | zero =>
        simp at ha hb
        subst ha hb
        exact .inl h
      | succ k => exact .inr (ih (k := k) (by simpa using ha) (by simpa using hb))

set_option maxHeartbeats 1000000 in
theorem rising_any (A : Option Addr) (n c : Nat) (ss : List ByteArray) (w : World) (hl : ss.length = n) (hn : n ≤ 9223372036854775807) (hr : Rd w 1 A n (strs ss)) :
    Calls Tryz.prog 48 #[.slice A n c] w fun e w' => e = .returned (.bool (rise ss)) ∧ ∃ m, w' = w.drewN m := by
  have HL := hide hl
  clear hl
  go_enter Tryz.func48, Tryz.ntmps48
  go_wp2
  go_loopg [3] n (fun gf i wx => ∃ k : Nat, n ≤ k + gf ∧ 1 ≤ k ∧ (k ≤ n ∨ k = 1) ∧ i = .int .i64 k ∧ (∃ m, wx = w.drewN m) ∧ ∀ (j : Nat) (a b : ByteArray), j + 1 < k → ss[j]? = some a → ss[j + 1]? = some b → lessS a b = true)
  case atStart => exact ⟨1, by omega, by omega, .inr rfl, rfl, ⟨0, rfl⟩, fun j a b h => by omega⟩
  case round =>
    obtain ⟨k, hg, h1, hk, rfl, ⟨m, rfl⟩, hall⟩ := hrel
    by_cases hlt : k < n
    · obtain ⟨j, rfl⟩ : ∃ j, k = j + 1 := ⟨k - 1, by omega⟩
      obtain ⟨a, ha⟩ : ∃ a, ss[j]? = some a := ⟨ss[j]'(by rw [HL.out]; omega), List.getElem?_eq_getElem _⟩
      obtain ⟨b, hb⟩ : ∃ b, ss[j + 1]? = some b := ⟨ss[j + 1]'(by rw [HL.out]; exact hlt), List.getElem?_eq_getElem _⟩
      obtain ⟨ad, rfl, hc0⟩ := hr.at_ (k := j) (x := .string a) (by rw [strs_get, ha]; rfl)
      obtain ⟨ad2, hA2, hc1⟩ := hr.at_ (k := j + 1) (x := .string b) (by rw [strs_get, hb]; rfl)
      obtain rfl : ad = ad2 := Option.some.inj hA2
      have hc2 := hc1
      rw [add_pos ad (by omega)] at hc2
      have HA := hide hall
      have Ha := hide ha
      have Hb := hide hb
      clear hall ha hb hA2 hr
      have i0 : (0 : Int) ≤ (j : Int) := by omega
      have i1 : (j : Int) < (n : Int) := by omega
      have i2 : (j : Int) + 1 < (n : Int) := by omega
      have i3 : (0 : Int) ≤ (j : Int) + 1 := by omega
      have w0 : IntKind.i64.wrap (j : Int) = (j : Int) := IntWalk.i64_in _ (by omega)
      have w1 : IntKind.i64.wrap ((j : Int) + 1 - 1) = (j : Int) := by rw [show (j : Int) + 1 - 1 = j by omega]; exact w0
      have t0 : ((j : Int) + 1).toNat = j + 1 := by omega
      cases hz : Op.bytesLess a.toList b.toList
      · have HZ := hide hz
        go_wp2
        go_quiet (fail)
        go_wp2
        go_ret
        exact ⟨by rw [rise_not Ha.out Hb.out HZ.out]; rfl, by first | exact ⟨_, rfl⟩ | exact ⟨_, World.drewN_drewN ..⟩⟩
      · have HZ := hide hz
        go_wp2
        go_quiet (fail)
        go_wp2
        go_roundg (gk - 1)
        case measure => omega
        case rel =>
          refine ⟨j + 2, by omega, by omega, .inl (by omega), by go_num, by first | exact ⟨_, rfl⟩ | exact ⟨_, World.drewN_drewN ..⟩, fun i x y hi hx hy => ?_⟩
          rcases Nat.lt_or_ge i j with h | h
          · exact HA.out i x y (by omega) hx hy
          · obtain rfl : i = j := by omega
            have e1 := Option.some.inj (Ha.out.symm.trans hx)
            have e2 := Option.some.inj (Hb.out.symm.trans hy)
            rw [← e1, ← e2]; exact HZ.out
    · have HA := hide hall
      clear hall
      go_wp2
      go_ret
      have hres : rise ss = true := rise_at fun j a b ha hb => by
        have := (List.getElem?_eq_some_iff.1 hb).1
        rw [HL.out] at this
        exact HA.out j a b (by omega) ha hb
      exact ⟨by rw [hres]; rfl, ⟨_, rfl⟩⟩
end Go.Proofs.YtaokjpbgdehhiaaGreatDoor.B
