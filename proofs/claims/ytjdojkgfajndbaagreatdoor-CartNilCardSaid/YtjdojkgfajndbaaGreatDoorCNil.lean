/- The walk of CartNil. -/
import Derived.Test.YtjdojkgfajndbaaGreatDoorCartNew
import Derived.Test.YtjdojkgfajndbaaGreatDoorNilCart
import Derived.Test.YtjdojkgfajndbaaGreatDoorRefNew
import Derived.Test.YtjdojkgfajndbaaGreatDoorView
import Derived.Deep.RegionWith
import Derived.Deep.Cut
namespace Go.Proofs.YtjdojkgfajndbaaGreatDoor.B
open Go.RowKit

abbrev oneA : List ByteArray := [⟨#[97]⟩]
theorem oneA_empty : emptyE oneA 1 1 20 4 = 0 := by decide +kernel
theorem oneA_new : newE oneA 384 = 0 := by decide +kernel
theorem oneA_ok : oneA.all (okText · 40) = true := by decide +kernel
theorem oneA_rise : rise oneA = true := by decide +kernel
theorem oneA_wt : (wt0 oneA : Int) ≤ roomOf 4 := by decide +kernel
theorem roomOf4 : roomOf 4 = 384 := by decide +kernel

theorem room4 (A : Option Addr) (n c : Nat) (w : World) :
    Calls Tryz.prog 17 #[.agg #[.slice A n c, .int .i64 1, .int .i64 1, .int .i64 20, .int .i64 4]] w fun e w' => e = .returned (.int .i64 384) ∧ w' = w.alloc (.cells #[.slice A n c, .int .i64 1, .int .i64 1, .int .i64 20, .int .i64 4] 51) := by
  have := rroom_any A n c 1 1 20 4 w (by omega) (by omega)
  rw [roomOf4] at this
  exact this
theorem rnew1 (A : Option Addr) (c : Nat) (w : World) (hr : Rd w 1 A 1 (strs oneA)) :
    Calls Tryz.prog 16 #[.slice A 1 c, .int .i64 384] w fun e w' => (∃ A2 c2, e = .returned (.tuple #[stV 384 0 0 A2 1 c2, .int .i64 0]) ∧ Rd w' 3 A2 1 (lvCells oneA) ∧ ∀ ad, A2 = some ad → w.heap.size ≤ ad.block) ∧ Below w.heap.size w w' := by
  refine (rnew_any A 1 c oneA 384 w rfl (by omega) (fun s hs => ?_) hr).mono ?_
  · simp at hs; subst hs; decide
  · rintro e w2 ⟨hb, ⟨h0, _⟩ | ⟨_, v, rfl, hown⟩⟩
    · exact absurd oneA_new h0
    · obtain ⟨A2, c2, rfl, hc2⟩ := own_slice hown
      exact ⟨⟨A2, c2, rfl, Rd.of_own hown, fun ad e => own_base hown _ (by subst e; rfl)⟩, hb⟩

theorem cartNew1 (gd base p c1 c2 : Nat) (A2 : Option Addr) (w : World) (hD : DiskAt w gd 20 base) (hr : Rd w 1 (some ⟨p, 0, none⟩) 1 (strs oneA)) (hr3 : Rd w 3 A2 1 (lvCells oneA)) :
    Calls Tryz.prog 19 #[.pointer (some ⟨gd, 0, none⟩), .agg #[.slice (some ⟨p, 0, none⟩) 1 c1, .int .i64 1, .int .i64 1, .int .i64 20, .int .i64 4], .agg #[.int .i64 384, .int .i64 0, .int .i64 0, .slice A2 1 c2, .slice none 0 0, .slice none 0 0], .int .i64 1] w fun e w' =>
      (∃ g q, e = .returned (.tuple #[.pointer (some ⟨g, 0, none⟩), .int .i64 0]) ∧ LogAt w' q 0 12 ∧ g < w'.heap.size ∧
      w'.cell? ⟨g, 20, none⟩ = some (.int .i64 1) ∧ w'.cell? ⟨g, 17, none⟩ = some (.pointer (some ⟨q, 0, none⟩)) ∧ w'.cell? ⟨g, 19, none⟩ = some (.int .i64 0) ∧ w'.cell? ⟨g, 21, none⟩ = some (.int .i64 (-1)) ∧ w'.cell? ⟨g, 13, none⟩ = some (.int .i64 (wt0 oneA : Nat)) ∧ w'.cell? ⟨g, 22, none⟩ = some (.int .i64 (wt0 oneA : Nat))) ∧ Below w.heap.size w w' := by
  have := cartNew_any gd 20 base (some ⟨p, 0, none⟩) A2 1 c1 c2 1 1 oneA 4 1 w hD (by omega) rfl (by omega) (by omega) oneA_empty (by omega) (by omega) (by omega) (by omega) (by omega) oneA_ok oneA_rise oneA_wt hr hr3
  rw [roomOf4] at this
  exact this
theorem log_below {w w' : World} {q : Nat} {a b : Int} (h : LogAt w q a b) (hb : Below w.heap.size w w') : LogAt w' q a b := by
  obtain ⟨x0, x1, x2, x3, x4, x6, x9, x10, x11, x12, x13, x14, x15, hB⟩ := h
  exact ⟨x0, x1, x2, x3, x4, x6, x9, x10, x11, x12, x13, x14, x15, hB.below hb⟩

theorem view_life (a b c d e f g h : Value) (w : World) : (Instr.field 39 (.agg #[a, b, c, d, e, f, g, h]) 0).run Tryz.prog w = .ok a w := by kernel_rfl
theorem view_flusher (a b c d e f g h : Value) (w : World) : (Instr.field 39 (.agg #[a, b, c, d, e, f, g, h]) 4).run Tryz.prog w = .ok e w := by kernel_rfl

theorem stNew {w3 W : World} {A3 : Option Addr} {c3 : Nat} (hr : Rd w3 3 A3 1 (lvCells oneA)) (hb : Below W.heap.size W w3) :
    ∃ g A2 c2, Value.pointer (some ⟨w3.heap.size, 0, none⟩) = Value.pointer (some ⟨g, 0, none⟩) ∧ Value.int .i64 0 = Value.int .i64 0 ∧ Blk (w3.alloc (.cells (stC 384 0 0 A3 1 c3) 47)) g 47 (stC 384 0 0 A2 1 c2) ∧ Rd (w3.alloc (.cells (stC 384 0 0 A3 1 c3) 47)) 3 A2 1 (lvCells oneA) ∧ Below W.heap.size W (w3.alloc (.cells (stC 384 0 0 A3 1 c3) 47)) :=
  ⟨_, _, _, rfl, rfl, Blk.new1 rfl _ _, hr.below (bA (Below.refl _ _) _), bA hb _⟩
theorem stSet {w3 W : World} {g : Nat} {A3 : Option Addr} {c3 : Nat} (HZ : Blk w3 g 47 noStateC) (hr : Rd w3 3 A3 1 (lvCells oneA)) (hA : ∀ ad, A3 = some ad → g < ad.block) (hb : Below W.heap.size W w3) (hg : W.heap.size ≤ g) :
    ∃ g' A2 c2, Value.pointer (some ⟨g, 0, none⟩) = Value.pointer (some ⟨g', 0, none⟩) ∧ Value.int .i64 0 = Value.int .i64 0 ∧
      Blk ((((((w3.setCell ⟨g, 0, none⟩ (.int .i64 384)).setCell ⟨g, 1, none⟩ (.int .i64 0)).setCell ⟨g, 2, none⟩ (.int .i64 0)).setCell ⟨g, 3, none⟩ (.slice A3 1 c3)).setCell ⟨g, 4, none⟩ (.slice none 0 0)).setCell ⟨g, 5, none⟩ (.slice none 0 0)) g' 47 (stC 384 0 0 A2 1 c2) ∧
      Rd ((((((w3.setCell ⟨g, 0, none⟩ (.int .i64 384)).setCell ⟨g, 1, none⟩ (.int .i64 0)).setCell ⟨g, 2, none⟩ (.int .i64 0)).setCell ⟨g, 3, none⟩ (.slice A3 1 c3)).setCell ⟨g, 4, none⟩ (.slice none 0 0)).setCell ⟨g, 5, none⟩ (.slice none 0 0)) 3 A2 1 (lvCells oneA) ∧
      Below W.heap.size W ((((((w3.setCell ⟨g, 0, none⟩ (.int .i64 384)).setCell ⟨g, 1, none⟩ (.int .i64 0)).setCell ⟨g, 2, none⟩ (.int .i64 0)).setCell ⟨g, 3, none⟩ (.slice A3 1 c3)).setCell ⟨g, 4, none⟩ (.slice none 0 0)).setCell ⟨g, 5, none⟩ (.slice none 0 0)) := by
  refine ⟨g, A3, c3, rfl, rfl, ?_, ?_, bS (bS (bS (bS (bS (bS hb hg _) hg _) hg _) hg _) hg _) hg _⟩
  · have := (((((HZ.set_ 0 (.int .i64 384)).set_ 1 (.int .i64 0)).set_ 2 (.int .i64 0)).set_ 3 (.slice A3 1 c3)).set_ 4 (.slice none 0 0)).set_ 5 (.slice none 0 0)
    simpa using this
  · refine hr.move fun ad e => ?_
    have h1 := hA ad e
    have far : ∀ (V : World) (o : Nat) (u : Value), (V.setCell ⟨g, o, none⟩ u).heap[ad.block]? = V.heap[ad.block]? := fun V o u => Below.heap_setCell _ _ _ _ (by simp; omega)
    rw [far, far, far, far, far, far]

set_option maxRecDepth 100000 in
set_option maxHeartbeats 12800000 in
theorem cartNil_walk (h : Int) (s1 s2 : ByteArray) (a b c : Int) (A : Option Addr) (n cp : Nat) (w : World) :
    Calls Tryz.prog 3 #[.int .i64 h, .agg #[.string s1, .int .i64 a, .slice A n cp, .string s2, .int .i64 b, .int .i64 c]] w fun e w' => e = .returned (.bool true) ∧ Below w.heap.size w w' := by
  go_enter Tryz.func3, Tryz.ntmps3
  go_wp2_with fail
  refine (reply_nil h _).mono ?_
  rintro e w1 ⟨rfl, hb1⟩
  have HB := hide (Blk.below (g := w.heap.size) (t := 24) (cs := #[.string s1, .int .i64 a, .slice A n cp, .string s2, .int .i64 b, .int .i64 c]) (Blk.new1 rfl _ _) hb1)
  have HL := hide (bT (bA (Below.refl w.heap.size w) _) hb1)
  have q0 : w1.cell? ⟨w.heap.size, 0, none⟩ = some (.string s1) := HB.out.cell 0
  have q1 : w1.cell? ⟨w.heap.size, 1, none⟩ = some (.int .i64 a) := HB.out.cell 1
  have q2 : w1.cell? ⟨w.heap.size, 2, none⟩ = some (.slice A n cp) := HB.out.cell 2
  have q3 : w1.cell? ⟨w.heap.size, 3, none⟩ = some (.string s2) := HB.out.cell 3
  have q4 : w1.cell? ⟨w.heap.size, 4, none⟩ = some (.int .i64 b) := HB.out.cell 4
  have q5 : w1.cell? ⟨w.heap.size, 5, none⟩ = some (.int .i64 c) := HB.out.cell 5
  have hsz : w.heap.size < w1.heap.size := HB.out.lt
  clear hb1
  go_wp2_with fail
  refine (phase_nil h _).mono ?_
  rintro e w2 ⟨rfl, rfl⟩
  go_wp2_with fail
  refine (start_nil h s1 s2 a b c A n cp _).mono ?_
  rintro e w3 ⟨rfl, hb3⟩
  have HR3 := hide (Blk.below (g := w1.heap.size) (t := 29) (cs := noReplyC) (Blk.new1 rfl _ _) hb3)
  have HL3 := hide (bT (bA HL.out _) hb3)
  have r0 : w3.cell? ⟨w1.heap.size, 0, none⟩ = some (.string ⟨#[]⟩) := HR3.out.cell 0
  have r1 : w3.cell? ⟨w1.heap.size, 1, none⟩ = some (.int .i64 0) := HR3.out.cell 1
  have r2 : w3.cell? ⟨w1.heap.size, 2, none⟩ = some (.int .i64 0) := HR3.out.cell 2
  have r3 : w3.cell? ⟨w1.heap.size, 3, none⟩ = some (.slice none 0 0) := HR3.out.cell 3
  have r4 : w3.cell? ⟨w1.heap.size, 4, none⟩ = some (.int .i64 0) := HR3.out.cell 4
  clear hb3 q0 q1 q2 q3 q4 q5 hsz
  go_wp2_with fail
  refine (step_nil h _).mono ?_
  rintro e w4 ⟨rfl, rfl⟩
  go_wp2_with fail
  refine (on_nil h _).mono ?_
  rintro e w5 ⟨rfl, rfl⟩
  go_wp2_with fail
  refine (sameReply_nil _).mono ?_
  rintro e w6 ⟨rfl, hb6⟩
  have HL6 := hide (bT HL3.out hb6)
  clear hb6 r0 r1 r2 r3 r4
  go_wp2_with fail
  refine (view_nil _).mono ?_
  rintro e w7 ⟨rfl, hb7⟩
  have HL7 := hide (bT HL6.out hb7)
  clear hb7
  go_wp2_with fail
  refine (last_nil h _).mono ?_
  rintro e w8 ⟨rfl, rfl⟩
  go_wp2_with fail
  refine (number_nil h _).mono ?_
  rintro e w9 ⟨rfl, rfl⟩
  go_wp2_with fail
  refine (points_nil _).mono ?_
  rintro e w10 ⟨rfl, rfl⟩
  go_wp2_with fail
  refine (state_nil _).mono ?_
  rintro e w11 ⟨rfl, hb11⟩
  have HL11 := hide (bT HL7.out hb11)
  clear hb11
  go_wp2_with fail
  refine (sameState_nil _).mono ?_
  rintro e w12 ⟨rfl, hb12⟩
  have HL12 := hide (bT HL11.out hb12)
  clear hb12
  go_wp2_with fail
  have HC := hide (Blk.new1 (w := w12.alloc (.cells #[.string ⟨#[97]⟩] 9)) (g := w12.heap.size + 1) (by simp) 51 #[.slice (some ⟨w12.heap.size, 0, none⟩) 1 1, .int .i64 1, .int .i64 1, .int .i64 20, .int .i64 4])
  have HS := hide (show Rd ((w12.alloc (.cells #[.string ⟨#[97]⟩] 9)).alloc (.cells #[.slice (some ⟨w12.heap.size, 0, none⟩) 1 1, .int .i64 1, .int .i64 1, .int .i64 20, .int .i64 4] 51)) 1 (some ⟨w12.heap.size, 0, none⟩) 1 (strs oneA) from ⟨rfl, fun _ => ⟨_, rfl, fun j u hu => by
    have := ((Blk.new1 (w := w12) rfl 9 #[.string ⟨#[97]⟩]).alloc (.cells #[.slice (some ⟨w12.heap.size, 0, none⟩) 1 1, .int .i64 1, .int .i64 1, .int .i64 20, .int .i64 4] 51)).cell j
    rw [show (#[Value.string ⟨#[97]⟩] : Array Value)[j]? = some u by simpa [strs] using hu] at this
    exact (congrArg _ (by unfold Addr.add; split <;> simp_all)).trans this⟩⟩)
  have HL0 := hide (bA (bA HL12.out (.cells #[.string ⟨#[97]⟩] 9)) (.cells #[.slice (some ⟨w12.heap.size, 0, none⟩) 1 1, .int .i64 1, .int .i64 1, .int .i64 20, .int .i64 4] 51))
  generalize (w12.alloc (.cells #[.string ⟨#[97]⟩] 9)).alloc (.cells #[.slice (some ⟨w12.heap.size, 0, none⟩) 1 1, .int .i64 1, .int .i64 1, .int .i64 20, .int .i64 4] 51) = W0 at *
  generalize w12.heap.size = p at *
  clear HL12 HL11 HL7 HL6 HL3 HL HB HR3
  have c0 : W0.cell? ⟨p + 1, 0, none⟩ = some (.slice (some ⟨p, 0, none⟩) 1 1) := HC.out.cell 0
  have c1 : W0.cell? ⟨p + 1, 1, none⟩ = some (.int .i64 1) := HC.out.cell 1
  have c2 : W0.cell? ⟨p + 1, 2, none⟩ = some (.int .i64 1) := HC.out.cell 2
  have c3 : W0.cell? ⟨p + 1, 3, none⟩ = some (.int .i64 20) := HC.out.cell 3
  have c4 : W0.cell? ⟨p + 1, 4, none⟩ = some (.int .i64 4) := HC.out.cell 4
  have lC : p + 1 < W0.heap.size := HC.out.lt
  have d0 : ∀ o o' : Obj, ((W0.alloc o).alloc o').cell? ⟨p + 1, 0, none⟩ = some (.slice (some ⟨p, 0, none⟩) 1 1) := fun o o' => bget (bA (bA (Below.refl W0.heap.size W0) o) o') c0
  go_cut [11, 12] from 93 (fun s11 s12 wx => ∃ g A2 c2, s11 = .pointer (some ⟨g, 0, none⟩) ∧ s12 = .int .i64 0 ∧ Blk wx g 47 (stC 384 0 0 A2 1 c2) ∧ Rd wx 3 A2 1 (lvCells oneA) ∧ Below W0.heap.size W0 wx)
  case first =>
    -- FIRST
    go_region_with (first
      | (go_at_call 17; refine (room4 _ _ _ _).mono ?_; rintro e w2 ⟨rfl, rfl⟩)
      | (go_at_call 16; refine (rnew1 _ _ _ (HS.out.below (by repeat (first | with_reducible exact Below.refl _ _ | with_reducible refine bA ?_ _ | with_reducible refine bD ?_)))).mono ?_; rintro e w3 ⟨⟨A3, c3, rfl, hr3, hA3⟩, hb3⟩
         (first
           | (have HZ := hide (show Blk w3 W0.heap.size 47 noStateC from (Blk.drew_ ((Blk.new1 (w := W0) rfl 47 noStateC).alloc _)).below hb3)
              have z0 : w3.cell? ⟨W0.heap.size, 0, none⟩ = some (.int .i64 0) := HZ.out.cell 0; have z1 : w3.cell? ⟨W0.heap.size, 1, none⟩ = some (.int .i64 0) := HZ.out.cell 1; have z2 : w3.cell? ⟨W0.heap.size, 2, none⟩ = some (.int .i64 0) := HZ.out.cell 2; have z3 : w3.cell? ⟨W0.heap.size, 3, none⟩ = some (.slice none 0 0) := HZ.out.cell 3; have z4 : w3.cell? ⟨W0.heap.size, 4, none⟩ = some (.slice none 0 0) := HZ.out.cell 4; have z5 : w3.cell? ⟨W0.heap.size, 5, none⟩ = some (.slice none 0 0) := HZ.out.cell 5
              have f0 := HZ.out.frozen 0; have f1 := HZ.out.frozen 1; have f2 := HZ.out.frozen 2; have f3 := HZ.out.frozen 3; have f4 := HZ.out.frozen 4; have f5 := HZ.out.frozen 5)
           | (have HZ := hide (show Blk w3 (W0.heap.size + 1) 47 noStateC from (Blk.drew_ (Blk.new1 (w := W0.alloc (.cells #[.slice (some ⟨p, 0, none⟩) 1 1, .int .i64 1, .int .i64 1, .int .i64 20, .int .i64 4] 51)) (by simp) 47 noStateC)).below hb3)
              have z0 : w3.cell? ⟨W0.heap.size + 1, 0, none⟩ = some (.int .i64 0) := HZ.out.cell 0; have z1 : w3.cell? ⟨W0.heap.size + 1, 1, none⟩ = some (.int .i64 0) := HZ.out.cell 1; have z2 : w3.cell? ⟨W0.heap.size + 1, 2, none⟩ = some (.int .i64 0) := HZ.out.cell 2; have z3 : w3.cell? ⟨W0.heap.size + 1, 3, none⟩ = some (.slice none 0 0) := HZ.out.cell 3; have z4 : w3.cell? ⟨W0.heap.size + 1, 4, none⟩ = some (.slice none 0 0) := HZ.out.cell 4; have z5 : w3.cell? ⟨W0.heap.size + 1, 5, none⟩ = some (.slice none 0 0) := HZ.out.cell 5
              have f0 := HZ.out.frozen 0; have f1 := HZ.out.frozen 1; have f2 := HZ.out.frozen 2; have f3 := HZ.out.frozen 3; have f4 := HZ.out.frozen 4; have f5 := HZ.out.frozen 5)
           | skip)))
    all_goals go_wp2_with fail
    all_goals go_meet
    all_goals first
      | (fail_if_success (have := HZ.out)); exact stNew hr3 (bT (bD (bA (Below.refl W0.heap.size W0) _)) hb3)
      | exact stSet HZ.out hr3 (fun ad e => by have := hA3 ad e; simp at this; omega) (bT (bD (bA (bA (Below.refl W0.heap.size W0) _) _)) hb3) (by omega)
    -- REST
  case rest =>
    obtain ⟨g, A2, c2', rfl, rfl, hB, hR, hb⟩ := hcut
    have HC1 := hide (HC.out.below hb)
    have HS1 := hide (HS.out.below hb)
    have HLc := hide (bT HL0.out hb)
    have HB := hide hB
    have HR := hide hR
    clear hb hB hR c0 c1 c2 c3 c4 d0 HC HS HL0 lC
    go_wp2_with fail
    refine (diskNil_any 20 _ (by omega) (by omega)).mono ?_
    rintro e wd ⟨⟨gd, rfl, hD⟩, hbd⟩
    have HC2 := hide (HC1.out.below hbd)
    have HS2 := hide (HS1.out.below hbd)
    have HB2 := hide (HB.out.below hbd)
    have HR2 := hide (HR.out.below hbd)
    have HLd := hide (bT HLc.out hbd)
    have HD := hide hD
    have c0 : wd.cell? ⟨p + 1, 0, none⟩ = some (.slice (some ⟨p, 0, none⟩) 1 1) := HC2.out.cell 0
    have c1 : wd.cell? ⟨p + 1, 1, none⟩ = some (.int .i64 1) := HC2.out.cell 1
    have c2 : wd.cell? ⟨p + 1, 2, none⟩ = some (.int .i64 1) := HC2.out.cell 2
    have c3 : wd.cell? ⟨p + 1, 3, none⟩ = some (.int .i64 20) := HC2.out.cell 3
    have c4 : wd.cell? ⟨p + 1, 4, none⟩ = some (.int .i64 4) := HC2.out.cell 4
    have s0 : wd.cell? ⟨g, 0, none⟩ = some (.int .i64 384) := HB2.out.cell 0
    have s1 : wd.cell? ⟨g, 1, none⟩ = some (.int .i64 0) := HB2.out.cell 1
    have s2 : wd.cell? ⟨g, 2, none⟩ = some (.int .i64 0) := HB2.out.cell 2
    have s3 : wd.cell? ⟨g, 3, none⟩ = some (.slice A2 1 c2') := HB2.out.cell 3
    have s4 : wd.cell? ⟨g, 4, none⟩ = some (.slice none 0 0) := HB2.out.cell 4
    have s5 : wd.cell? ⟨g, 5, none⟩ = some (.slice none 0 0) := HB2.out.cell 5
    clear hD hbd HC1 HS1 HB HR HLc
    go_wp2_with fail
    refine (cartNew1 gd _ p 1 c2' A2 wd HD.out HS2.out HR2.out).mono ?_
    rintro e wn ⟨⟨gn, q, rfl, hlog, hlt, a20, a17, a19, a21, a13, a22⟩, hbn⟩
    have HLog := hide hlog
    have HLn := hide (bT HLd.out hbn)
    have c0n := bget hbn c0
    have c1n := bget hbn c1
    have c2n := bget hbn c2
    have c3n := bget hbn c3
    have c4n := bget hbn c4
    have s0n := bget hbn s0
    have s1n := bget hbn s1
    have s2n := bget hbn s2
    have s3n := bget hbn s3
    have s4n := bget hbn s4
    have s5n := bget hbn s5
    have A20 := hide a20
    have A17 := hide a17
    have A19 := hide a19
    have A21 := hide a21
    have A13 := hide a13
    have A22 := hide a22
    clear hbn hlog c0 c1 c2 c3 c4 s0 s1 s2 s3 s4 s5 a20 a17 a19 a21 a13 a22 HC2 HS2 HB2 HR2 HLd HD hlt
    go_wp2_with fail
    refine (cartNew_nil _ _ _ _ _ _ _ _ _ _ _ _ _ _ _).mono ?_
    rintro e wm ⟨rfl, hbm⟩
    have HLog1 := hide (log_below HLog.out hbm)
    have HLm := hide (bT HLn.out hbm)
    have B20 := hide (bget hbm A20.out)
    have B17 := hide (bget hbm A17.out)
    have B19 := hide (bget hbm A19.out)
    have B21 := hide (bget hbm A21.out)
    have B13 := hide (bget hbm A13.out)
    have B22 := hide (bget hbm A22.out)
    have vf0 := view_life
    have vf4 := view_flusher
    clear hbm c0n c1n c2n c3n c4n s0n s1n s2n s3n s4n s5n
    go_wp2_with fail
    refine (view_any gn q 1 0 0 (-1) _ _ 12 _ HLog1.out B20.out B17.out B19.out B21.out B13.out B22.out).mono ?_
    rintro e wv ⟨rfl, hbv⟩
    have HLog2 := hide (log_below HLog1.out hbv)
    have HLv := hide (bT HLm.out hbv)
    have D20 := hide (bget hbv B20.out)
    have D17 := hide (bget hbv B17.out)
    have D19 := hide (bget hbv B19.out)
    have D21 := hide (bget hbv B21.out)
    have D13 := hide (bget hbv B13.out)
    have D22 := hide (bget hbv B22.out)
    clear hbv
    go_wp2_with fail
    refine (view_any gn q 1 0 0 (-1) _ _ 12 _ HLog2.out D20.out D17.out D19.out D21.out D13.out D22.out).mono ?_
    rintro e wy ⟨rfl, hby⟩
    have HLy := hide (bT HLv.out hby)
    clear hby
    go_wp2_with fail
    go_ret
    exact ⟨rfl, HLy.out⟩
end Go.Proofs.YtjdojkgfajndbaaGreatDoor.B
