/- Ledger.State of a new ledger. -/
import Derived.Test.YtnaapkoladiomaaGreatDoorEmpty
import Derived.Test.YtnaapkoladiomaaGreatDoorKeys
import Derived.Deep.RegionHeld3
import Derived.Deep.RegionLaw
namespace Go.Proofs.YtnaapkoladiomaaGreatDoor.B
open Go.RowKit

def lvCells (ss : List ByteArray) : List Value := ss.flatMap fun s => [.string s, .int .i64 0, .int .i64 0]
theorem lvCells_snoc (ss : List ByteArray) (s : ByteArray) : lvCells (ss ++ [s]) = lvCells ss ++ [.string s, .int .i64 0, .int .i64 0] := by simp [lvCells]
theorem lvCells_one (ss : List ByteArray) : ∀ u ∈ lvCells ss, u.oneCell' = true := by
  intro u hu
  simp only [lvCells, List.mem_flatMap] at hu
  obtain ⟨s, _, h⟩ := hu
  simp only [List.mem_cons, List.not_mem_nil, or_false] at h
  rcases h with rfl | rfl | rfl <;> rfl
theorem mget_lm0 {s : ByteArray} : ∀ (ss : List ByteArray) (m : List (ByteArray × Value)), (s ∈ ss ∨ mget m s = some (lv0 s)) → mget (ss.foldl (fun m s => mput m s (lv0 s)) m) s = some (lv0 s)
  | [], m, h => by
    rcases h with h | h
    · cases h
    · exact h
  | x :: r, m, h => by
    simp only [List.foldl_cons]
    apply mget_lm0 r
    by_cases hx : s = x
    · subst hx; exact .inr (mget_mput_same _ _ _)
    · rcases h with h | h
      · rcases List.mem_cons.1 h with h | h
        · exact absurd h hx
        · exact .inl h
      · exact .inr (by rw [mget_mput_other _ _ (beq_ne hx)]; exact h)

theorem infoLevel : (Tryz.prog.info? 80).map (fun i => (i.zero, i.size, i.bytes)) = some (some (.agg #[.string .empty, .int .i64 0, .int .i64 0]), 3, 32) := by kernel_rfl

/-- What holds when k levels are told. -/
structure SInv (room : Int) (ss : List ByteArray) (w : World) (k : Nat) (wr : World) : Prop where
  ex : ∃ v, Blk wr (w.heap.size + 1) 29 #[.int .i64 room, .int .i64 0, .int .i64 0, v, .slice none 0 0, .slice none 0 0] ∧ wr.ownsRow (w.heap.size + 1 + 1) 80 3 v k (lvCells (ss.take k))
  res : Blk wr w.heap.size 29 #[.int .i64 0, .int .i64 0, .int .i64 0, .slice none 0 0, .slice none 0 0, .slice none 0 0]
  low : Below w.heap.size w wr

theorem SInv.start (room : Int) (ss : List ByteArray) (w : World) : SInv room ss w 0 (((w.alloc (Obj.cells #[.int .i64 0, .int .i64 0, .int .i64 0, .slice none 0 0, .slice none 0 0, .slice none 0 0] 29)).alloc (Obj.cells #[.int .i64 room, .int .i64 0, .int .i64 0, .slice none 0 0, .slice none 0 0, .slice none 0 0] 29)).drew) where
  ex := ⟨.slice none 0 0, by
    have h := Blk.new (w.alloc (Obj.cells #[.int .i64 0, .int .i64 0, .int .i64 0, .slice none 0 0, .slice none 0 0, .slice none 0 0] 29)) 29 #[.int .i64 room, .int .i64 0, .int .i64 0, .slice none 0 0, .slice none 0 0, .slice none 0 0]
    have h' : Blk _ _ _ _ := Blk.drew_ h
    simpa using h', own_nil _ _ _ _⟩
  res := (Blk.new w 29 #[.int .i64 0, .int .i64 0, .int .i64 0, .slice none 0 0, .slice none 0 0, .slice none 0 0]).alloc _
  low := bD (bA (bA (Below.refl _ _) _) _)

theorem SInv.step {room : Int} {ss : List ByteArray} {w wr w1 : World} {k : Nat} {s : ByteArray} {v : Value} {o : Obj} {g' cap : Nat} (hR : Blk wr w.heap.size 29 #[.int .i64 0, .int .i64 0, .int .i64 0, .slice none 0 0, .slice none 0 0, .slice none 0 0]) (hL : Below w.heap.size w wr)
    (hB : Blk wr (w.heap.size + 1) 29 #[.int .i64 room, .int .i64 0, .int .i64 0, v, .slice none 0 0, .slice none 0 0]) (hv : wr.ownsRow (w.heap.size + 1 + 1) 80 3 v k (lvCells (ss.take k)))
    (hs : ss[k]? = some s) (h1 : w1.ownsRow (w.heap.size + 1 + 1) 80 3 (.slice (some ⟨g', 0, none⟩) (k + 1) cap) (k + 1) (lvCells (ss.take k) ++ [.string s, .int .i64 0, .int .i64 0]))
    (hg : (wr.alloc o).drew.grownBy w1 v.ownBlock) (hat : v.ownBlock = some g' ∨ g' = wr.heap.size + 1)  :
    SInv room ss w (k + 1) (w1.setCell ⟨w.heap.size + 1, 3, none⟩ (.slice (some ⟨g', 0, none⟩) (k + 1) cap)) where
  ex := by
    have hsz := hL.size
    have hvb : v.ownBlock ≠ some (w.heap.size + 1) := by
      intro e
      rcases hv.2 with ⟨rfl, _⟩ | ⟨g0, c0, cur, rfl, hb, _⟩
      · simp [Value.ownBlock] at e
      · have : g0 = w.heap.size + 1 := by simpa [Value.ownBlock] using e
        omega
    refine ⟨_, ?_, own_move (v := .slice (some ⟨g', 0, none⟩) (k + 1) cap) (by rw [take_snoc hs, lvCells_snoc]; exact h1) fun q hq => ?_⟩
    · have h := (((hB.alloc o).drew_).grown hg (fun e => hvb e.symm)).set_ 3 (.slice (some ⟨g', 0, none⟩) (k + 1) cap)
      simpa using h
    · have hq' : g' = q := by simpa [Value.ownBlock] using hq
      subst hq'
      have hge : w.heap.size + 1 + 1 ≤ g' := by
        obtain ⟨g1, c1, e, hb, _⟩ := h1.form (by omega)
        injection e with e1
        injection e1 with e2
        injection e2 with e3
        omega
      exact Below.heap_setCell _ _ _ _ (by simp; omega)
  res := by
    refine (((hR.alloc o).drew_).grown hg fun e => ?_).far (by simp) _
    rcases hv.2 with ⟨rfl, _⟩ | ⟨g0, c0, cur, rfl, hb, _⟩
    · simp [Value.ownBlock] at e
    · have : w.heap.size = g0 := by simpa [Value.ownBlock] using e
      omega
  low := by
    have hsz := hL.size
    have h2 : Below w.heap.size w (wr.alloc o).drew := bD (bA hL o)
    refine (h2.grown hg h2.size fun q hq => ?_).setCell (p := ⟨w.heap.size + 1, 3, none⟩) (by simp) _
    rcases hv.2 with ⟨rfl, _⟩ | ⟨g0, c0, cur, rfl, hb, _⟩
    · simp [Value.ownBlock] at hq
    · have : g0 = q := by simpa [Value.ownBlock] using hq
      omega

set_option maxRecDepth 100000 in
set_option maxHeartbeats 3200000 in
theorem state0_any (g : Nat) (room wt : Int) (ss : List ByteArray) (lp : Option Addr) (base : Nat) (w : World) (hled : Led0 w g room wt ss (lm0 ss) lp base) (hn : ss.length ≤ 512) :
    Calls Tryz.prog 76 #[.pointer (some ⟨g, 0, none⟩)] w fun e w' => (∃ v, e = .returned (.agg #[.int .i64 room, .int .i64 0, .int .i64 0, v, .slice none 0 0, .slice none 0 0]) ∧
      w'.ownsRow w.heap.size 80 3 v ss.length (lvCells ss)) ∧ Below w.heap.size w w' := by
  obtain ⟨A, c, bl, bh, bd, hB, hcodes, hml, hmh, hmd, _⟩ := hled.ex
  have c0 : w.cell? ⟨g, 0, none⟩ = some (.int .i64 room) := hB.cell 0
  have c1 : w.cell? ⟨g, 1, none⟩ = some (.int .i64 0) := hB.cell 1
  have c2 : w.cell? ⟨g, 2, none⟩ = some (.int .i64 0) := hB.cell 2
  obtain ⟨n, hl⟩ : ∃ n, ss.length = n := ⟨_, rfl⟩
  rw [hl] at hn hcodes hB
  have hgw : g < w.heap.size := hB.lt
  have HB := hide hB
  have HM := hide hml
  have HC := hide hcodes
  have HH := hide hmh
  have HD := hide hmd
  have HL := hide hl
  clear hled hB hcodes hml hmh hmd hl
  obtain ⟨i0, hi0, hz0, hz1, hz2⟩ := info_parts infoLevel
  go_enter Tryz.func76, Tryz.ntmps76
  go_wp2_with fail
  go_region_held3 (fun w' => w'.cell? ⟨g, 0, none⟩ = some (.int .i64 room) ∧ w'.cell? ⟨g, 1, none⟩ = some (.int .i64 0) ∧ w'.cell? ⟨g, 2, none⟩ = some (.int .i64 0)) (go_keep) (fail)
  rename_i hHeld
  clear hHeld c0 c1 c2
  have hS := SInv.start room ss w
  generalize ((w.alloc (Obj.cells #[.int .i64 0, .int .i64 0, .int .i64 0, .slice none 0 0, .slice none 0 0, .slice none 0 0] 29)).alloc (Obj.cells #[.int .i64 room, .int .i64 0, .int .i64 0, .slice none 0 0, .slice none 0 0, .slice none 0 0] 29)).drew = W at hS ⊢
  have c4 : W.cell? ⟨g, 4, none⟩ = some (.slice A n c) := (HB.out.below hS.low).cell 4
  go_wp2_with fail
  clear c4
  go_loopg [33] n (fun gf i wr => ∃ k : Nat, n ≤ k + gf ∧ k ≤ n ∧ i = .int .i64 k ∧ SInv room ss w k wr)
  case atStart => exact ⟨0, by omega, by omega, rfl, hS⟩
  case round =>
    obtain ⟨k, hg, hk, rfl, hI⟩ := hrel
    by_cases hlt : k < n
    · obtain ⟨s, hs⟩ : ∃ s, ss[k]? = some s := ⟨ss[k]'(by rw [HL.out]; exact hlt), List.getElem?_eq_getElem _⟩
      obtain ⟨v, hb, hv⟩ := hI.ex
      have hlow := hI.low
      have hres := hI.res
      have hrr : Rd wr 1 A n (strs ss) := Rd.of_own (own_below HC.out hlow)
      obtain ⟨ad, rfl, hc⟩ := hrr.at_ (k := k) (x := .string s) (by rw [strs_get, hs]; rfl)
      have hlk : ∀ x : World, MapOf x bl (lm0 ss) → (Instr.lookup 146 (.map (some bl)) (.string s) false).run Tryz.prog x = .ok (.agg #[.string s, .int .i64 0, .int .i64 0]) x := by
        intro x hx
        have := run_lookup hx Tryz.underlying146 Tryz.underlying9 (Tryz.zeroValue80 x) s
        rw [show mget (lm0 ss) s = some (lv0 s) from mget_lm0 ss [] (.inl (List.mem_of_getElem? hs))] at this
        exact this
      have hsz := hlow.size
      have vB : ∀ q, v.ownBlock = some q → w.heap.size + 1 + 1 ≤ q := by
        intro q hq
        rcases hv.2 with ⟨rfl, _⟩ | ⟨g0, c0, cur, rfl, h1, _⟩
        · simp [Value.ownBlock] at hq
        · have : g0 = q := by simpa [Value.ownBlock] using hq
          omega
      have v1 : some (w.heap.size + 1) ≠ v.ownBlock := fun e => by have := vB _ e.symm; omega
      have v2 : some g ≠ v.ownBlock := fun e => by have := vB _ e.symm; omega
      have hblt : bl < w.heap.size := HM.out.lt
      have v3 : some bl ≠ v.ownBlock := fun e => by have := vB _ e.symm; omega
      have HV := hide hv
      have HLow := hide hlow
      have HBT := hide hb
      have HRes := hide hres
      have HT := hide hs
      have hm : MapOf wr bl (lm0 ss) := HM.out.below hlow
      have hmA : ∀ o : Obj, MapOf (wr.alloc o).drew bl (lm0 ss) := fun o => hm.alloc o
      have lT : w.heap.size + 1 < wr.heap.size := hb.lt
      have lg : g < wr.heap.size := by omega
      have cT : wr.cell? ⟨w.heap.size + 1, 3, none⟩ = some v := hb.cell 3
      have fT : wr.frozen? ⟨w.heap.size + 1, 3, none⟩ = false := hb.frozen 3
      have cg : wr.cell? ⟨g, 5, none⟩ = some (.map (some bl)) := (HB.out.below hlow).cell 5
      have hvA : ∀ o : Obj, (wr.alloc o).drew.ownsRow (w.heap.size + 1 + 1) 80 3 v k (lvCells (ss.take k)) := fun o => own_below hv (bD (bA (Below.refl _ _) o))
      clear hv hlow hb hres hs hI hS
      go_wp2_with fail
      have hlk1 := hlk wr.drew (show MapOf wr.drew bl (lm0 ss) from hm)
      clear hlk hm
      go_region_law
        ((refine step_append_lies _ (by rfl) _ _ _ (by rfl) (w.heap.size + 1 + 1) 80 i0 _ 3 32 Tryz.underlying25 hi0 hz0 hz1 hz2 rfl (by omega) v k (lvCells (ss.take k)) (by rfl) (hvA _)
            ⟨wr.heap.size, 0, none⟩ 1 1 [.string s, .int .i64 0, .int .i64 0] (by rfl) (by rfl) (World.news_of_block (cs := #[.string s, .int .i64 0, .int .i64 0]) (t := 80) (fr := (0, 0)) (heap_alloc_new wr _)) (by simp [Value.oneCell'])
            (by omega) (by simp only [maxLen]; omega) (by omega) (by simp; omega) (wr.heap.size + 1) (by simp) ?_; intro g' cap w1 hown1 hgrow hat hlt'; have hb1 := hide ((Blk.drew_ (HBT.out.alloc _)).grown hgrow v1); have cT1 : w1.cell? ⟨w.heap.size + 1, 3, none⟩ = some v := hb1.out.cell 3; have fT1 : w1.frozen? ⟨w.heap.size + 1, 3, none⟩ = false := hb1.out.frozen 3))
      all_goals go_wp2_with fail
      all_goals go_roundg (gk - 1)
      case' measure => omega
      all_goals first | omega | skip
      all_goals exact ⟨k + 1, by omega, by omega, by go_num, SInv.step HRes.out HLow.out HBT.out HV.out HT.out hown1 hgrow hat⟩
    · obtain rfl : k = n := by omega
      obtain ⟨v, hb, hv⟩ := hI.ex
      obtain ⟨A1, c1, rfl, hc1⟩ := own_slice hv
      have hr6 := hI.res
      have hlow := hI.low
      have HV := hide hv
      have HB1 := hide (HB.out.below hlow)
      have HH1 := hide (HH.out.below hlow)
      have HD1 := hide (HD.out.below hlow)
      have HT := hide hb
      have HR := hide hr6
      have HLow := hide hlow
      have c6 : wr.cell? ⟨g, 6, none⟩ = some (.map (some bh)) := HB1.out.cell 6
      clear hv hb hr6 hlow hI hS
      go_wp2_with fail
      refine (Tryz.keysH_any (some bh) _).mono ?_
      rintro e w1 ⟨rfl, rfl⟩
      go_wp2_with fail
      refine (keysH0 bh _ HH1.out).mono ?_
      rintro e w2 ⟨rfl, hb2⟩
      have HX2 := hide (bT (bA (Below.refl _ _) _) hb2 : Below wr.heap.size wr w2)
      clear hb2 c6
      have c7 : w2.cell? ⟨g, 7, none⟩ = some (.map (some bd)) := (HB1.out.below HX2.out).cell 7
      have HD2 := hide (HD1.out.below HX2.out)
      go_wp2_with fail
      go_loopg [56] 0 (fun gf i W2 => i = .int .i64 0 ∧ w2 = W2)
      case atStart => exact ⟨rfl, rfl⟩
      case round =>
        obtain ⟨rfl, rfl⟩ := hrel
        go_wp2_with fail
        refine (Tryz.keysD_any (some bd) _).mono ?_
        rintro e w3 ⟨rfl, rfl⟩
        go_wp2_with fail
        refine (keysD0 bd _ HD2.out).mono ?_
        rintro e w4 ⟨rfl, hb4⟩
        have HX4 := hide (bT HX2.out ((bT (bA (Below.refl _ _) _) hb4)))
        clear hb4 c7
        go_wp2_with fail
        go_loopg [84] 0 (fun gf i W2 => i = .int .i64 0 ∧ w4 = W2)
        case atStart => exact ⟨rfl, rfl⟩
        case round =>
          obtain ⟨rfl, rfl⟩ := hrel
          have HT4 := hide (HT.out.below HX4.out)
          have HR4 := hide (HR.out.below HX4.out)
          have t0 : w4.cell? ⟨w.heap.size + 1, 0, none⟩ = some (.int .i64 room) := HT4.out.cell 0
          have t1 : w4.cell? ⟨w.heap.size + 1, 1, none⟩ = some (.int .i64 0) := HT4.out.cell 1
          have t2 : w4.cell? ⟨w.heap.size + 1, 2, none⟩ = some (.int .i64 0) := HT4.out.cell 2
          have t3 : w4.cell? ⟨w.heap.size + 1, 3, none⟩ = some (.slice A1 k c1) := HT4.out.cell 3
          have t4 : w4.cell? ⟨w.heap.size + 1, 4, none⟩ = some (.slice none 0 0) := HT4.out.cell 4
          have t5 : w4.cell? ⟨w.heap.size + 1, 5, none⟩ = some (.slice none 0 0) := HT4.out.cell 5
          have r0 : w4.cell? ⟨w.heap.size, 0, none⟩ = some (.int .i64 0) := HR4.out.cell 0
          have r1 : w4.cell? ⟨w.heap.size, 1, none⟩ = some (.int .i64 0) := HR4.out.cell 1
          have r2 : w4.cell? ⟨w.heap.size, 2, none⟩ = some (.int .i64 0) := HR4.out.cell 2
          have r3 : w4.cell? ⟨w.heap.size, 3, none⟩ = some (.slice none 0 0) := HR4.out.cell 3
          have r4 : w4.cell? ⟨w.heap.size, 4, none⟩ = some (.slice none 0 0) := HR4.out.cell 4
          have r5 : w4.cell? ⟨w.heap.size, 5, none⟩ = some (.slice none 0 0) := HR4.out.cell 5
          have f0 := HR4.out.frozen 0
          have f1 := HR4.out.frozen 1
          have f2 := HR4.out.frozen 2
          have f3 := HR4.out.frozen 3
          have f4 := HR4.out.frozen 4
          have f5 := HR4.out.frozen 5
          go_wp2_with fail
          refine bodyPost_ret (v := .agg #[.int .i64 room, .int .i64 0, .int .i64 0, .slice A1 k c1, .slice none 0 0, .slice none 0 0]) (by simp [results, Tryz.results76, go_sem, *]) rfl ⟨⟨_, rfl, ?_⟩, ?_⟩
          · have h := own_below HV.out HX4.out
            rw [HL.out]
            rw [List.take_of_length_le (by have := HL.out; omega)] at h
            refine own_move (own_low h (by omega)) fun q hq => ?_
            have hge : w.heap.size + 1 + 1 ≤ q := by
              rcases h.2 with ⟨e, _⟩ | ⟨g0, c0, cur, e, h1, _⟩
              · rw [e] at hq; simp [Value.ownBlock] at hq
              · rw [e] at hq
                have : g0 = q := by simpa [Value.ownBlock] using hq
                omega
            repeat rw [Below.heap_setCell _ _ _ _ (by simp; omega)]
          · have hb := bT HLow.out HX4.out
            repeat (first | with_reducible exact hb | with_reducible refine bS ?_ (by omega) _)
end Go.Proofs.YtnaapkoladiomaaGreatDoor.B
