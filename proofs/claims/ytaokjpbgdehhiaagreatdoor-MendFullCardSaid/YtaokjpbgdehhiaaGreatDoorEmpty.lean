/- stock.empty, stock.New: a new ledger. -/
import Derived.Test.YtaokjpbgdehhiaaGreatDoorCodes
import Derived.Test.YtaokjpbgdehhiaaGreatDoorMap
import Derived.Test.YtaokjpbgdehhiaaGreatDoorAppend
namespace Go.Proofs.YtaokjpbgdehhiaaGreatDoor.B
open Go.RowKit

set_option maxHeartbeats 400000 in
theorem wheelNew_any (n : Nat) (w : World) (hn : n ≤ 1099511627776) :
    Calls Tryz.prog 86 #[.int .i64 (n : Int)] w fun e w' => (∃ p, e = .returned (.tuple #[.pointer p, .int .i64 0])) ∧ Below w.heap.size w w' := by
  have hmm := @run_makeMap Tryz.prog
  have hd : decide ((n : Int) ≤ 1099511627776) = true := by simp; omega
  go_enter Tryz.func86, Tryz.ntmps86
  go_wp2
  go_ret2
  exact ⟨⟨_, rfl⟩, bA (bA (Below.refl _ _) _) _⟩

/-- What the levels of a new ledger weigh. -/
def wt0 (ss : List ByteArray) : Nat := ss.foldl (fun n s => n + (21 + s.size)) 64
def lv0 (s : ByteArray) : Value := .agg #[.string s, .int .i64 0, .int .i64 0]
def lm0 (ss : List ByteArray) : List (ByteArray × Value) := ss.foldl (fun m s => mput m s (lv0 s)) []
theorem wt0_snoc (ss : List ByteArray) (s : ByteArray) : wt0 (ss ++ [s]) = wt0 ss + (21 + s.size) := by simp [wt0, List.foldl_append]
theorem lm0_snoc (ss : List ByteArray) (s : ByteArray) : lm0 (ss ++ [s]) = mput (lm0 ss) s (lv0 s) := by simp [lm0, List.foldl_append]
theorem wt_from (ss : List ByteArray) : ∀ n : Nat, (∀ s ∈ ss, s.size ≤ 40) → ss.foldl (fun n s => n + (21 + s.size)) n ≤ n + 61 * ss.length := by
  induction ss with
  | nil => intro n _; simp
  | cons s r ih =>
    intro n h
    have h1 := ih (n + (21 + s.size)) fun x hx => h x (by simp [hx])
    have h2 := h s (by simp)
    simp only [List.foldl_cons, List.length_cons]
    omega
theorem wt0_le (ss : List ByteArray) (h : ∀ s ∈ ss, s.size ≤ 40) : wt0 ss ≤ 64 + 61 * ss.length := wt_from ss 64 h
theorem take_snoc {ss : List ByteArray} {k : Nat} {s : ByteArray} (h : ss[k]? = some s) : ss.take (k + 1) = ss.take k ++ [s] := by
  rw [List.take_add_one, h]; rfl

/-- A new ledger's block: with room for what its maps and its codes are. -/
structure Led0 (w : World) (g : Nat) (room wt : Int) (ss : List ByteArray) (m : List (ByteArray × Value)) (lp : Option Addr) (base : Nat) : Prop where
  ex : ∃ A c bl bh bd, Blk w g 116 #[.int .i64 room, .int .i64 0, .int .i64 0, .int .i64 wt, .slice A ss.length c, .map (some bl), .map (some bh), .map (some bd), .pointer lp] ∧
    w.ownsRow base 9 1 (.slice A ss.length c) ss.length (strs ss) ∧ MapOf w bl m ∧ MapOf w bh [] ∧ MapOf w bd [] ∧ base ≤ g ∧ base ≤ bl ∧ bl ≠ bh ∧ bl ≠ bd ∧ bh ≠ bd

/-- What holds of the new ledger when k codes are through. -/
structure EInv (room : Int) (ss : List ByteArray) (w w1 : World) (A1 : Option Addr) (c1 n k : Nat) (lp : Option Addr) (wr : World) : Prop where
  blk : Blk wr (w1.heap.size + 1 + 1 + 1) 116 #[.int .i64 room, .int .i64 0, .int .i64 0, .int .i64 (wt0 (ss.take k) : Nat), .slice A1 n c1, .map (some w1.heap.size), .map (some (w1.heap.size + 1)), .map (some (w1.heap.size + 1 + 1)), .pointer lp]
  ml : MapOf wr w1.heap.size (lm0 (ss.take k))
  mh : MapOf wr (w1.heap.size + 1) []
  md : MapOf wr (w1.heap.size + 1 + 1) []
  own : wr.ownsRow w.heap.size 9 1 (.slice A1 n c1) n (strs ss)
  low : Below w1.heap.size w1 wr

theorem own_lt {w : World} {base n : Nat} {e : TypeId} {size : Nat} {v : Value} {xs : List Value} (h : w.ownsRow base e size v n xs) (k : Nat) (hk : v.ownBlock = some k) : k < w.heap.size := by
  rcases h.2 with ⟨rfl, _⟩ | ⟨g, cap, cur, rfl, _, hh, _⟩
  · simp [Value.ownBlock] at hk
  · have : g = k := by simpa [Value.ownBlock] using hk
    subst this
    exact (Array.getElem?_eq_some_iff.1 hh).1
theorem own_move {w w' : World} {base n : Nat} {e : TypeId} {size : Nat} {v : Value} {xs : List Value} (h : w.ownsRow base e size v n xs) (hm : ∀ k, v.ownBlock = some k → w'.heap[k]? = w.heap[k]?) : w'.ownsRow base e size v n xs := by
  refine ⟨h.1, ?_⟩
  rcases h.2 with h | ⟨g, cap, cur, hv, hg, hh, r⟩
  · exact .inl h
  · exact .inr ⟨g, cap, cur, hv, hg, (hm g (by rw [hv]; rfl)).trans hh, r⟩
theorem own_below {w w' : World} {base n : Nat} {e : TypeId} {size : Nat} {v : Value} {xs : List Value} (h : w.ownsRow base e size v n xs) (hb : Below w.heap.size w w') : w'.ownsRow base e size v n xs :=
  own_move h fun k hk => hb.block k (own_lt h k hk)

theorem EInv.start (room : Int) (ss : List ByteArray) {w w1 : World} {A1 : Option Addr} {c1 n : Nat} (hown : w1.ownsRow w.heap.size 9 1 (.slice A1 n c1) n (strs ss)) :
    EInv room ss w w1 A1 c1 n 0 none ((((w1.alloc (Obj.map #[] 0)).alloc (Obj.map #[] 0)).alloc (Obj.map #[] 0)).alloc (Obj.cells #[.int .i64 room, .int .i64 0, .int .i64 0, .int .i64 64, .slice A1 n c1, .map (some w1.heap.size), .map (some (w1.heap.size + 1)), .map (some (w1.heap.size + 1 + 1)), .pointer none] 116)) where
  blk := by
    have h := Blk.new ((((w1.alloc (Obj.map #[] 0)).alloc (Obj.map #[] 0)).alloc (Obj.map #[] 0))) 116 #[.int .i64 room, .int .i64 0, .int .i64 0, .int .i64 64, .slice A1 n c1, .map (some w1.heap.size), .map (some (w1.heap.size + 1)), .map (some (w1.heap.size + 1 + 1)), .pointer none]
    simpa [wt0] using h
  ml := (((MapOf.made w1).alloc _).alloc _).alloc _
  mh := by have h := ((MapOf.made (w1.alloc (Obj.map #[] 0))).alloc (Obj.map #[] 0)).alloc (Obj.cells #[.int .i64 room, .int .i64 0, .int .i64 0, .int .i64 64, .slice A1 n c1, .map (some w1.heap.size), .map (some (w1.heap.size + 1)), .map (some (w1.heap.size + 1 + 1)), .pointer none] 116); simpa using h
  md := by have h := (MapOf.made ((w1.alloc (Obj.map #[] 0)).alloc (Obj.map #[] 0))).alloc (Obj.cells #[.int .i64 room, .int .i64 0, .int .i64 0, .int .i64 64, .slice A1 n c1, .map (some w1.heap.size), .map (some (w1.heap.size + 1)), .map (some (w1.heap.size + 1 + 1)), .pointer none] 116); simpa using h
  own := own_below hown (bA (bA (bA (bA (Below.refl _ _) _) _) _) _)
  low := bA (bA (bA (bA (Below.refl _ _) _) _) _) _

theorem EInv.step {room : Int} {ss : List ByteArray} {w w1 wr w2 : World} {A1 : Option Addr} {c1 n k : Nat} {s : ByteArray} (h : EInv room ss w w1 A1 c1 n k none wr) (h1 : w1.ownsRow w.heap.size 9 1 (.slice A1 n c1) n (strs ss)) (hs : ss[k]? = some s)
    (hm : MapOf w2 w1.heap.size (mput (lm0 (ss.take k)) s (lv0 s))) (hg : wr.grownBy w2 (some w1.heap.size)) :
    EInv room ss w w1 A1 c1 n (k + 1) none (w2.setCell ⟨w1.heap.size + 1 + 1 + 1, 3, none⟩ (.int .i64 ((wt0 (ss.take k) : Int) + (21 + (s.size : Int))))) where
  blk := by
    have hb := (h.blk.grown hg (by simp; omega)).set_ 3 (.int .i64 ((wt0 (ss.take k) : Int) + (21 + (s.size : Int))))
    rw [take_snoc hs, wt0_snoc]
    simpa using hb
  ml := by
    rw [take_snoc hs, lm0_snoc]
    exact hm.set (by simp; omega) _
  mh := (h.mh.move (hg.block _ h.mh.lt (by simp))).set (by simp) _
  md := (h.md.move (hg.block _ h.md.lt (by simp; omega))).set (by simp) _
  own := by
    refine own_move h.own fun q hq => ?_
    have hlt := own_lt h1 q hq
    rw [Below.heap_setCell _ _ _ _ (by simp; omega)]
    exact hg.block q (own_lt h.own q hq) (by simp; omega)
  low := by
    have hsz := h.low.size
    refine (h.low.grown hg hsz fun q hq => ?_).setCell (p := ⟨w1.heap.size + 1 + 1 + 1, 3, none⟩) (by simp; omega) _
    have : w1.heap.size = q := by simpa using hq
    omega

set_option maxHeartbeats 2000000 in
theorem empty_any (A : Option Addr) (n c : Nat) (ss : List ByteArray) (room : Int) (w : World) (hl : ss.length = n) (hn : n ≤ 512) (hs : ∀ s ∈ ss, s.size ≤ 40) (hr : Rd w 1 A n (strs ss)) :
    Calls Tryz.prog 49 #[.slice A n c, .int .i64 room] w fun e w' => (∃ g lp, e = .returned (.pointer (some ⟨g, 0, none⟩)) ∧ Led0 w' g room (wt0 ss : Nat) ss (lm0 ss) lp w.heap.size) ∧ Below w.heap.size w w' := by
  have hmm := @run_makeMap Tryz.prog
  go_enter Tryz.func49, Tryz.ntmps49
  go_wp2_with fail
  refine (cloneS_any A n c ss _ hl (by omega) hr).mono ?_
  rintro e w1 ⟨⟨v, rfl, hown⟩, hb1⟩
  obtain ⟨A1, c1, rfl, hc1⟩ := own_slice hown
  have HL := hide hl
  have HS := hide hs
  have HO := hide hown
  have HR := hide (hr.below hb1)
  clear hl hs hr
  go_wp2_with fail
  go_loopg [18] n (fun gf i wr => ∃ k : Nat, n ≤ k + gf ∧ k ≤ n ∧ i = .int .i64 k ∧ EInv room ss w w1 A1 c1 n k none wr)
  case atStart => exact ⟨0, by omega, by omega, rfl, EInv.start room ss HO.out⟩
  case round =>
    obtain ⟨k, hg, hk, rfl, hI⟩ := hrel
    by_cases hlt : k < n
    · obtain ⟨s, hs⟩ : ∃ s, ss[k]? = some s := ⟨ss[k]'(by rw [HL.out]; exact hlt), List.getElem?_eq_getElem _⟩
      have hrr : Rd wr 1 A n (strs ss) := HR.out.below hI.low
      obtain ⟨ad, rfl, hc⟩ := hrr.at_ (k := k) (x := .string s) (by rw [strs_get, hs]; rfl)
      have hsz := HS.out s (List.mem_of_getElem? hs)
      have hwt : wt0 (ss.take k) ≤ 40000 := by
        have h1 := wt0_le (ss.take k) (fun x hx => HS.out x (List.mem_of_mem_take hx))
        have h2 : (ss.take k).length ≤ k := List.length_take_le _ _
        omega
      have hT := hide hs
      have hIS := hide hI
      have hL5 : wr.cell? ⟨w1.heap.size + 1 + 1 + 1, 5, none⟩ = some (.map (some w1.heap.size)) := hI.blk.cell 5
      have hml := hI.ml
      have hblk := hide hI.blk
      clear hs hI
      generalize hW : wt0 (ss.take k) = wt at *
      have HW := hide hW
      clear hW
      go_wp2_with (at_mapUpdate; refine wpList_mapSet _ rfl (.tmp 25) (.tmp 26) (.tmp 28) 111 rfl 9 118 Tryz.underlying111 Tryz.underlying9 w1.heap.size (lm0 (ss.take k)) rfl hml s (lv0 s) rfl rfl ?_; intro w2 hm2 hg2; have hb2 := hide (hblk.out.grown hg2 (by simp; omega)); have c3 : w2.cell? ⟨w1.heap.size + 1 + 1 + 1, 3, none⟩ = some (.int .i64 (wt : Int)) := hb2.out.cell 3; have f3 := hb2.out.frozen 3)
      go_roundg (gk - 1)
      case measure => omega
      case rel =>
        refine ⟨k + 1, by omega, by omega, by go_num, ?_⟩
        have := (hIS.out).step HO.out hT.out hm2 hg2
        rw [HW.out] at this
        exact this
    · obtain rfl : k = n := by omega
      have hIS := hide hI
      have hblk := hide hI.blk
      have hlow := hI.low
      clear hI
      go_wp2_with (go_at_call 86; refine (wheelNew_any 0 _ (by omega)).mono ?_; rintro e w2 ⟨⟨lp, rfl⟩, hb2⟩; have hk2 := hide (hblk.out.below hb2); have c8 : w2.cell? ⟨w1.heap.size + 1 + 1 + 1, 8, none⟩ = some (.pointer none) := hk2.out.cell 8; have f8 := hk2.out.frozen 8)
      go_ret
      obtain ⟨b1, b2, b3, b4, b5, b6⟩ := hIS.out
      have hq := hlow.size
      have hL := HL.out
      have ht : ss.take k = ss := List.take_of_length_le (by omega)
      rw [ht] at b1 b2
      refine ⟨⟨_, lp, rfl, ⟨A1, c1, w1.heap.size, w1.heap.size + 1, w1.heap.size + 1 + 1, ?_, ?_, ?_, ?_, ?_, ?_, ?_, by omega, by omega, by omega⟩⟩, ?_⟩
      · have := (b1.below hb2).set_ 8 (.pointer lp)
        rw [hL]
        simpa using this
      · rw [hL]
        refine own_move (own_below b5 hb2) fun q hq' => Below.heap_setCell _ _ _ _ ?_
        have := own_lt HO.out q hq'
        simp; omega
      · exact (b2.below hb2).set (by simp; omega) _
      · exact (b3.below hb2).set (by simp) _
      · exact (b4.below hb2).set (by simp) _
      · have := hb1.size; omega
      · have := hb1.size; omega
      · have := hb1.size
        exact bS (bT (bT hb1 hlow) hb2) (by omega) _
end Go.Proofs.YtaokjpbgdehhiaaGreatDoor.B
