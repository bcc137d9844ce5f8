/- The walk of DeskKnown: the step machine (Ev..), piece by piece; three times a map's iterator may go two ways; once errors.As. -/
import Derived.Test.YtncodmefagealaaGreatDoorGL
import Derived.Test.YtncodmefagealaaGreatDoorGH
import Derived.Test.YtncodmefagealaaGreatDoorEvP1
import Derived.Test.YtncodmefagealaaGreatDoorEvP2
import Derived.Test.YtncodmefagealaaGreatDoorEvPA
import Derived.Test.YtncodmefagealaaGreatDoorEvPB
import Derived.Test.YtncodmefagealaaGreatDoorEvP7
import Derived.Test.YtncodmefagealaaGreatDoorEvPC
import Derived.Test.YtncodmefagealaaGreatDoorEvPD
import Derived.Test.YtncodmefagealaaGreatDoorEvPE
import Derived.Test.YtncodmefagealaaGreatDoorEvPF
import Derived.Test.YtncodmefagealaaGreatDoorEvPG
namespace Go.Ev
open Go Go.RowKit
/-- Of two candidates either leads to the same state. -/
theorem To.two {P : Program} {tail : List Frame} {W : World} {a0 : Nat → Option Nat} {f0 : Nat → Option (Nat × Nat)} {f : Frame} {cs : List Frame} {w : World} {s s2 : S} {L : List (V × V × Nat)} {n0 n1 : Nat} {kb kt : List Nat} (ht : To P W a0 f0 tail f cs w s) (hc : candsP P s = some L)
    (hl : L.length = 2) (h0 : ((L[0]?).bind (pickP P s)).bind (Ev.piece P n0 kb kt) = some s2) (h1 : ((L[1]?).bind (pickP P s)).bind (Ev.piece P n1 kb kt) = some s2) : To P W a0 f0 tail f cs w s2 := by
  match L, hl with
  | [a, b], _ =>
    obtain ⟨sa, ea, pa⟩ := Option.bind_eq_some_iff.1 h0
    obtain ⟨sb, eb, pb⟩ := Option.bind_eq_some_iff.1 h1
    have ea' : pickP P s a = some sa := ea
    have eb' : pickP P s b = some sb := eb
    obtain ⟨e, he, s', hs', t'⟩ := ht.branch hc (fun e he => by
      simp only [List.mem_cons, List.mem_nil_iff, or_false] at he
      rcases he with rfl | rfl
      · exact ⟨_, ea'⟩
      · exact ⟨_, eb'⟩)
    simp only [List.mem_cons, List.mem_nil_iff, or_false] at he
    rcases he with rfl | rfl
    · rw [ea'] at hs'; cases hs'; exact t'.piece pa
    · rw [eb'] at hs'; cases hs'; exact t'.piece pb
end Go.Ev
namespace Go.Proofs.YtncodmefagealaaGreatDoor.K
open Go Go.ChangeShapes Go.WideShapes Go.ChangeAt Go.WideMaps Go.WideElems Go.RowKit Go.Ev
def flV : List V := V.int .i64 (-1) :: (List.replicate 128 (0 : Int)).map (V.int .u8)
noncomputable def bs0 (e0 e6 e13 e19 e25 e26 e32 : Nat) : List (Nat × AObj) := [
  (0, .cells e0 false false [V.iface 682 (.far 1000)].length [] (rowT [V.iface 682 (.far 1000)])),
  (6, .cells e6 false false [V.iface 682 (.far 1001)].length [] (rowT [V.iface 682 (.far 1001)])),
  (13, .cells e13 false false [V.iface 682 (.far 1002)].length [] (rowT [V.iface 682 (.far 1002)])),
  (19, .cells e19 false false (powN.map (V.int .u64)).length [] (rowT (powN.map (V.int .u64)))),
  (25, .cells e25 false false (tabN.map (V.int .u32)).length [] (rowT (tabN.map (V.int .u32)))),
  (26, .cells e26 false false flV.length [] (rowT flV)),
  (32, .cells e32 false false [V.iface 682 (.far 1003)].length [] (rowT [V.iface 682 (.far 1003)]))]
theorem begin_h (e0 e6 e13 e19 e25 e26 e32 : Nat) : (s0 e0 e6 e13 e19 e25 e26 e32).h = ⟨layT (bs0 e0 e6 e13 e19 e25 e26 e32), 1004⟩ := by kernel_rfl
theorem begin_s (e0 e6 e13 e19 e25 e26 e32 : Nat) : callK Tryz.prog 3 [] false [] (s0 e0 e6 e13 e19 e25 e26 e32).h = some (s0 e0 e6 e13 e19 e25 e26 e32) := by kernel_rfl
theorem end_v (e0 e6 e13 e19 e25 e26 e32 : Nat) : Ev.results Tryz.prog 3 (s21 e0 e6 e13 e19 e25 e26 e32).top.tm (s21 e0 e6 e13 e19 e25 e26 e32).h = some (.bool true) := by kernel_rfl
theorem call16 (e0 e6 e13 e19 e25 e26 e32 : Nat) : callI (s16 e0 e6 e13 e19 e25 e26 e32) = some (9, [.iface 35 (.ptr 2935 0), .iface 38 (.ptr 2946 0)]) := by kernel_rfl
theorem asBody : (fnI Tryz.prog 9).isSome = true := by kernel_rfl
def F0 (a b c d : Nat × Nat) : Nat → Nat × Nat := fun n => if n = 1000 then a else if n = 1001 then b else if n = 1002 then c else d
theorem bs_low {e0 e6 e13 e19 e25 e26 e32 : Nat} {b : Nat} {o : AObj} (h : (b, o) ∈ bs0 e0 e6 e13 e19 e25 e26 e32) : b < 500 := by
  simp only [bs0, List.mem_cons, List.mem_nil_iff, or_false, Prod.mk.injEq] at h
  rcases h with ⟨rfl, _⟩ | ⟨rfl, _⟩ | ⟨rfl, _⟩ | ⟨rfl, _⟩ | ⟨rfl, _⟩ | ⟨rfl, _⟩ | ⟨rfl, _⟩ <;> omega
theorem h0_ok {W : World} {a b c d : Nat × Nat} {e0 e6 e13 e19 e25 e26 e32 : Nat} {cs0 cs6 cs13 cs19 cs25 cs26 cs32 : Array Value} {f0 f6 f13 f19 f25 f26 f32 : Nat × Nat}
    (h0 : W.heap[0]? = some (.cells cs0 e0 f0)) (g0 : cs0.toList = [.iface 682 (.pointer (some ⟨a.1, a.2, none⟩))])
    (h6 : W.heap[6]? = some (.cells cs6 e6 f6)) (g6 : cs6.toList = [.iface 682 (.pointer (some ⟨b.1, b.2, none⟩))])
    (h13 : W.heap[13]? = some (.cells cs13 e13 f13)) (g13 : cs13.toList = [.iface 682 (.pointer (some ⟨c.1, c.2, none⟩))])
    (h19 : W.heap[19]? = some (.cells cs19 e19 f19)) (g19 : cs19.toList = powN.map (.int .u64))
    (h25 : W.heap[25]? = some (.cells cs25 e25 f25)) (g25 : cs25.toList = tabN.map (.int .u32))
    (h26 : W.heap[26]? = some (.cells cs26 e26 f26)) (g26 : cs26.toList = .int .i64 (-1) :: (List.replicate 128 (0 : Int)).map (.int .u8))
    (h32 : W.heap[32]? = some (.cells cs32 e32 f32)) (g32 : cs32.toList = [.iface 682 (.pointer (some ⟨d.1, d.2, none⟩))]) :
    HR Tryz.prog (base W) (r0 (F0 a b c d)) (s0 e0 e6 e13 e19 e25 e26 e32).h W := by
  rw [begin_h]
  have hat : ∀ x o, (x, o) ∈ bs0 e0 e6 e13 e19 e25 e26 e32 → (r0 (F0 a b c d)).at_ x = some x := fun x o h => by simp only [r0]; rw [if_pos (bs_low h)]
  refine HR.of (Below.refl _ _) (fun x o hm _ => ⟨x, hat x o hm, ?_, ?_⟩) (fun x o x' o' y h h' e e' => ?_) (fun x hx => ?_) (fun g hg => ?_) (fun x y h => by cases h) (by omega) (fun x y h1 h2 h3 => ?_) noFar (fun _ => rfl)
  · simp only [bs0, List.mem_cons, List.mem_nil_iff, or_false, Prod.mk.injEq] at hm
    rcases hm with ⟨rfl, rfl⟩ | ⟨rfl, rfl⟩ | ⟨rfl, rfl⟩ | ⟨rfl, rfl⟩ | ⟨rfl, rfl⟩ | ⟨rfl, rfl⟩ | ⟨rfl, rfl⟩
    · rw [h0]; exact cells_ok (by rw [g0]; exact far_ok (by omega) rfl)
    · rw [h6]; exact cells_ok (by rw [g6]; exact far_ok (by omega) rfl)
    · rw [h13]; exact cells_ok (by rw [g13]; exact far_ok (by omega) rfl)
    · rw [h19]; exact cells_ok (by rw [g19]; exact vrs_ints _ _)
    · rw [h25]; exact cells_ok (by rw [g25]; exact vrs_ints _ _)
    · rw [h26]; exact cells_ok (by rw [g26]; exact .cons _ _ _ _ (.int _ _) (vrs_ints _ _))
    · rw [h32]; exact cells_ok (by rw [g32]; exact far_ok (by omega) rfl)
  · simp only [bs0, List.mem_cons, List.mem_nil_iff, or_false, Prod.mk.injEq] at hm
    rcases hm with ⟨rfl, rfl⟩ | ⟨rfl, rfl⟩ | ⟨rfl, rfl⟩ | ⟨rfl, rfl⟩ | ⟨rfl, rfl⟩ | ⟨rfl, rfl⟩ | ⟨rfl, rfl⟩ <;> (intro h; cases h)
  · rw [hat x o h] at e
    rw [hat x' o' h'] at e'
    exact (Option.some.inj e).trans (Option.some.inj e').symm
  · simp only [r0]; rw [if_neg (by omega), if_neg (by omega)]
  · simp only [r0]; rw [if_pos hg]
  · simp only [r0] at h3; rw [if_neg (by omega), if_neg (by omega)] at h3; cases h3
set_option maxRecDepth 100000 in
theorem known_walk (W : World) (hL : laidMetH Tryz.prog Rows.deskKnownRow.laid W) : Calls Tryz.prog 3 #[] W fun e W' => e = .returned (.bool true) ∧ Below W.heap.size W W' := by
  obtain ⟨hp, hh⟩ := plain_of hL
  obtain ⟨c0, o0, cs0, e0, f0, h0, g0⟩ := err_cell hp (List.mem_of_getElem? (i := 0) (a := ("larder/desk.ErrWords", Rows.laid_larder_desk_ErrWords)) rfl) nWords tWords
  obtain ⟨c6, o6, cs6, e6, f6, h6, g6⟩ := err_cell hp (List.mem_of_getElem? (i := 24) (a := ("larder/sheet.ErrDone", Rows.laid_larder_sheet_ErrDone)) rfl) nDone tDone
  obtain ⟨c13, o13, cs13, e13, f13, h13, g13⟩ := err_cell hp (List.mem_of_getElem? (i := 14) (a := ("larder/desk.ErrNumber", Rows.laid_larder_desk_ErrNumber)) rfl) nNum tNum
  obtain ⟨c32, o32, cs32, e32, f32, h32, g32⟩ := err_cell hp (List.mem_of_getElem? (i := 9) (a := ("strconv.ErrSyntax", Rows.laid_strconv_ErrSyntax)) rfl) nSyn tSyn
  obtain ⟨cs19, e19, f19, h19, g19⟩ := laid_pow hp
  obtain ⟨cs25, e25, f25, h25, g25⟩ := laid_tab hp
  obtain ⟨cs26, e26, f26, h26, g26⟩ := laid_fl hp
  obtain ⟨mc, hmc⟩ := Option.isSome_iff_exists.1 asBody
  have hr := h0_ok (a := (c0, o0)) (b := (c6, o6)) (c := (c13, o13)) (d := (c32, o32)) h0 g0 h6 g6 h13 g13 h19 g19 h25 g25 h26 g26 h32 g32
  refine (calls_of (v := .bool true) fun tail => ⟨s21 e0 e6 e13 e19 e25 e26 e32, ?_, rfl, rfl, rfl, rfl, rfl, end_v e0 e6 e13 e19 e25 e26 e32⟩).mono ?_
  · have t0 := To.begin (tail := tail) hr .nil (begin_s e0 e6 e13 e19 e25 e26 e32)
    have t1 := t0.piece (p1 e0 e6 e13 e19 e25 e26 e32)
    have t2 := t1.piece (p2 e0 e6 e13 e19 e25 e26 e32)
    have t3 := t2.piece (p3 e0 e6 e13 e19 e25 e26 e32)
    have t4 := t3.piece (p4 e0 e6 e13 e19 e25 e26 e32)
    have t5 := t4.piece (p5 e0 e6 e13 e19 e25 e26 e32)
    have t6 := t5.piece (p6 e0 e6 e13 e19 e25 e26 e32)
    have t7 := t6.piece (p7 e0 e6 e13 e19 e25 e26 e32)
    have t8 := t7.piece (p8 e0 e6 e13 e19 e25 e26 e32)
    have t9 := t8.piece (p9 e0 e6 e13 e19 e25 e26 e32)
    have t10 := t9.two (p10 e0 e6 e13 e19 e25 e26 e32).1 (by kernel_rfl) (p10 e0 e6 e13 e19 e25 e26 e32).2.1 (p10 e0 e6 e13 e19 e25 e26 e32).2.2
    have t11 := t10.piece (p11 e0 e6 e13 e19 e25 e26 e32)
    have t12 := t11.two (p12 e0 e6 e13 e19 e25 e26 e32).1 (by kernel_rfl) (p12 e0 e6 e13 e19 e25 e26 e32).2.1 (p12 e0 e6 e13 e19 e25 e26 e32).2.2
    have t13 := t12.piece (p13 e0 e6 e13 e19 e25 e26 e32)
    have t14 := t13.two (p14 e0 e6 e13 e19 e25 e26 e32).1 (by kernel_rfl) (p14 e0 e6 e13 e19 e25 e26 e32).2.1 (p14 e0 e6 e13 e19 e25 e26 e32).2.2
    have t15 := t14.piece (p15 e0 e6 e13 e19 e25 e26 e32)
    have t16 := t15.piece (p16 e0 e6 e13 e19 e25 e26 e32)
    have t17 := as_to (handle_at hh) t16 (call16 e0 e6 e13 e19 e25 e26 e32) hmc (p17 e0 e6 e13 e19 e25 e26 e32)
    have t18 := t17.piece (p18 e0 e6 e13 e19 e25 e26 e32)
    have t19 := t18.piece (p19 e0 e6 e13 e19 e25 e26 e32)
    have t20 := t19.piece (p20 e0 e6 e13 e19 e25 e26 e32)
    have t21 := t20.piece (p21 e0 e6 e13 e19 e25 e26 e32)
    exact t21
  · rintro e W' ⟨r, x, rfl, hv, hb⟩
    exact ⟨by rw [hv.bool_inv], hb⟩
end Go.Proofs.YtncodmefagealaaGreatDoor.K
