/- The document's Format. -/
import Derived.Test.YtnaapkoladiomaaGreatDoorGB
import Derived.Test.YtnaapkoladiomaaGreatDoorGA
import Derived.Deep.RegionWith
import Derived.Deep.Cut
import Derived.StillTailTactics
namespace Go.Proofs.YtnaapkoladiomaaGreatDoor.B
open Go.RowKit Go.Shelf

set_option maxRecDepth 100000 in
set_option maxHeartbeats 3200000 in
theorem rformat_no (A : Option Addr) (n c : Nat) (ss : List ByteArray) (st hd se sl : Int) (w : World) (hl : ss.length = n) (hn : n ≤ 9223372036854775807) (hz : ∀ s ∈ ss, s.size ≤ 9223372036854775807) (hr : Rd w 1 A n (strs ss)) (hE : emptyE ss st hd se sl ≠ 0) :
    Calls Tryz.prog 14 #[cfgV A n c st hd se sl] w (FmtPost ss st hd se sl w) := by
  have H := rcheck_any A n c ss st hd se sl (w.alloc (.cells (cfgC A n c st hd se sl) 24)) hl hn hz (hr.below (bA (Below.refl _ _) _))
  have HE := hide hE
  have HP := hide (show ∀ e w', e = .returned (.tuple #[.slice none 0 0, .int .i64 (emptyE ss st hd se sl)]) → Below w.heap.size w w' → FmtPost ss st hd se sl w e w' from fun e w' h hb => ⟨hb, .inl ⟨hE, h⟩⟩)
  generalize emptyE ss st hd se sl = E at H hE HP
  clear hr hl hz
  go_enter Tryz.func14, Tryz.ntmps14
  go_wp2_with fail
  refine H.mono ?_
  rintro e w1 ⟨rfl, hb1⟩
  have HB := hide (bT (bA (Below.refl w.heap.size w) _) hb1)
  clear H hb1
  go_wp2_with fail
  go_ret2
  exact HP.out _ _ rfl HB.out

theorem rlay0 (A A2 : Option Addr) (n c c2 : Nat) (st hd se : Int) (sl : Nat) (ss : List ByteArray) (w : World) (hl : ss.length = n) (hn : n ≤ 9223372036854775807) (hz : ∀ s ∈ ss, s.size ≤ 9223372036854775807) (hr : Rd w 1 A n (strs ss)) (hE : emptyE ss st hd se sl = 0) (hr3 : Rd w 3 A2 n (lvCells ss)) :
    Calls Tryz.prog 7 #[cfgV A n c st hd se sl, .int .i64 1, stV (roomOf sl) 0 0 A2 n c2] w (RLayPost w (sl : Int) 1 (body0 ss sl)) := by
  obtain ⟨a1, a2, a3, a4, a5, a6, a7, a8, a9, a10⟩ := empty_facts hE
  obtain ⟨b1, b2, b3, b4, b5, b6, b7⟩ := new_facts a10
  obtain ⟨y1, y2⟩ := body_small ⟨a5, a6⟩ a9 a10
  have y3 : (body0 ss sl).length ≤ (roomOf sl).toNat := y1
  have hxl : (body0 ss sl).length ≤ 131072 := by omega
  have HQ := rlayout_ok A n c ss st hd se sl 1 (.int .i64 (roomOf sl)) (.int .i64 0) (.int .i64 0) (.slice A2 n c2) (.slice none 0 0) (.slice none 0 0) (body0 ss sl) w hl hn hz hr hE (by omega) ⟨Nat.le_refl _, by omega⟩ hxl
    (st0_byte (roomOf sl).toNat ss (fun s hs => size_of_ok (List.all_eq_true.1 b5 s hs)) (by omega) b2) (by intro u hu; simp at hu; rcases hu with rfl | rfl | rfl | rfl | rfl | rfl <;> rfl)
    (fun V hV => rfits0 A A2 n c c2 st hd se sl ss V hl (by omega) (by omega) ⟨b3, b4⟩ b5 b6 b7 (hr.below hV) (hr3.below hV))
    (fun V hV => by
      have := rputState_any (roomOf sl).toNat 0 0 A2 n c2 (lv0s ss) V (by have e := lvCells_eq ss; rw [e] at hr3; exact hr3.below hV) (by simp [hl]) (lv0_ok ss (fun s hs => size_of_ok (List.all_eq_true.1 b5 s hs))) (by omega) (by omega) (by omega) (by omega) hxl
      rw [show (((roomOf sl).toNat : Nat) : Int) = roomOf sl by omega] at this
      exact this)
  rw [show ((1 : Nat) : Int) % 2 * (sl : Int) = (sl : Int) by omega] at HQ
  exact HQ

theorem add_at (b m : Nat) : (⟨b, 0, none⟩ : Addr).add m = ⟨b, m, none⟩ := by unfold Addr.add; split <;> simp_all

set_option maxRecDepth 100000 in
set_option maxHeartbeats 12800000 in
theorem rformat_ok (A : Option Addr) (n c : Nat) (ss : List ByteArray) (st hd : Int) (se sl : Nat) (w : World) (hl : ss.length = n) (hn : n ≤ 9223372036854775807) (hz : ∀ s ∈ ss, s.size ≤ 9223372036854775807) (hr : Rd w 1 A n (strs ss)) (hE : emptyE ss st hd se sl = 0) :
    Calls Tryz.prog 14 #[cfgV A n c st hd se sl] w (FmtPost ss st hd se sl w) := by
  obtain ⟨a1, a2, a3, a4, a5, a6, a7, a8, a9, a10⟩ := empty_facts hE
  obtain ⟨b1, b2, b3, b4, b5, b6, b7⟩ := new_facts a10
  obtain ⟨y1, y2⟩ := body_small ⟨a5, a6⟩ a9 a10
  have y3 : (body0 ss sl).length ≤ (roomOf sl).toNat := y1
  obtain ⟨hse, hms⟩ : se ≤ 4096 ∧ sl + ((body0 ss sl).length + 127) / 128 + 1 ≤ se := by omega
  have hsl : sl ≤ 1024 := by omega
  have hxl : (body0 ss sl).length ≤ 131072 := by omega
  have HP := hide (show ∀ g w', Below w.heap.size w w' → Rd w' 1 (some ⟨g, 0, none⟩) (se * 128) (bv (imgN (se * 128) (wsN sl 1 (body0 ss sl)))) → FmtPost ss st hd se sl w (.returned (.tuple #[.slice (some ⟨g, 0, none⟩) (se * 128) (se * 128), .int .i64 0])) w' from
    fun g w' hb hr => ⟨hb, .inr ⟨hE, g, rfl, hr⟩⟩)
  have HCk := hide (fun W (hW : Below w.heap.size w W) => rcheck_any A n c ss st hd se sl W hl hn hz (hr.below hW))
  have HLa := hide (fun W A2 c2 (hW : Below w.heap.size w W) (hr3 : Rd W 3 A2 n (lvCells ss)) => rlay0 A A2 n c c2 st hd se sl ss W hl hn hz (hr.below hW) hE hr3)
  have HL := hide hl
  have HSz := hide hz
  have HB0 := hide (bA (Below.refl w.heap.size w) (.cells (cfgC A n c st hd se sl) 24))
  have HR0 := hide (hr.below HB0.out)
  have HC0 := hide (Blk.new1 (w := w) rfl 24 (cfgC A n c st hd se sl))
  have HE := hide hE
  have HNe := hide (show newE ss (roomOf sl) = 0 from a10)
  obtain ⟨x, hx⟩ : ∃ x, x = body0 ss sl := ⟨_, rfl⟩
  rw [← hx] at hms hxl HP HLa
  clear hl hz hr hE a1 a2 a3 a4 a5 a6 a7 a8 a9 a10 b1 b2 b3 b4 b5 b6 b7 y1 y2 y3 hx
  obtain ⟨Z, hZ, hmk⟩ := make_bytes (se * 128) (by omega)
  go_enter Tryz.func14, Tryz.ntmps14
  go_wp2_with fail
  refine (HCk.out _ HB0.out).mono ?_
  rintro e W0 ⟨rfl, hb1⟩
  rw [HE.out]
  have HB1 := hide (bT HB0.out hb1)
  have HC := hide (HC0.out.below hb1)
  have HR := hide (HR0.out.below hb1)
  clear hb1 HB0 HC0 HR0 HCk
  go_upto_region 4 with fail
  have c0 : W0.cell? ⟨w.heap.size, 0, none⟩ = some (.slice A n c) := HC.out.cell 0
  have c1 : W0.cell? ⟨w.heap.size, 1, none⟩ = some (.int .i64 st) := HC.out.cell 1
  have c2 : W0.cell? ⟨w.heap.size, 2, none⟩ = some (.int .i64 hd) := HC.out.cell 2
  have c3 : W0.cell? ⟨w.heap.size, 3, none⟩ = some (.int .i64 se) := HC.out.cell 3
  have c4 : W0.cell? ⟨w.heap.size, 4, none⟩ = some (.int .i64 sl) := HC.out.cell 4
  have lC : w.heap.size < W0.heap.size := HC.out.lt
  have d0 : ∀ o o' : Obj, ((W0.alloc o).alloc o').cell? ⟨w.heap.size, 0, none⟩ = some (.slice A n c) := fun o o' => bget (bA (bA (Below.refl W0.heap.size W0) o) o') c0
  have HRoom := hide hmk
  have HMs := hide hms
  have HSe := hide hse
  clear hmk hms hse
  go_cut [5, 6] from 17 (fun s5 s6 wx => StAt W0 ss n (roomOf sl) s5 wx ∧ s6 = .int .i64 (newE ss (roomOf sl)))
  case first =>
    go_region_with (first
      | (go_at_call 16; refine (rroom13_any A n c st hd se sl _).mono ?_; rintro e w2 ⟨rfl, rfl⟩)
      | (go_at_call 44; refine (rnew2_any A n c ss (roomOf sl) _ HL.out hn HSz.out (HR.out.below (by repeat (first | with_reducible exact Below.refl _ _ | with_reducible refine bA ?_ _ | with_reducible refine bD ?_)))).mono ?_; rintro e w3 ⟨⟨r3, A3, n3, c3, rfl, hr3, hA3⟩, hb3⟩
         (first
           | (have HZ := hide (show Blk w3 W0.heap.size 29 zeroC from (Blk.drew_ ((Blk.new1 (w := W0) rfl 29 zeroC).alloc _)).below hb3)
              have z0 : w3.cell? ⟨W0.heap.size, 0, none⟩ = some (.int .i64 0) := HZ.out.cell 0; have z1 : w3.cell? ⟨W0.heap.size, 1, none⟩ = some (.int .i64 0) := HZ.out.cell 1; have z2 : w3.cell? ⟨W0.heap.size, 2, none⟩ = some (.int .i64 0) := HZ.out.cell 2; have z3 : w3.cell? ⟨W0.heap.size, 3, none⟩ = some (.slice none 0 0) := HZ.out.cell 3; have z4 : w3.cell? ⟨W0.heap.size, 4, none⟩ = some (.slice none 0 0) := HZ.out.cell 4; have z5 : w3.cell? ⟨W0.heap.size, 5, none⟩ = some (.slice none 0 0) := HZ.out.cell 5
              have f0 := HZ.out.frozen 0; have f1 := HZ.out.frozen 1; have f2 := HZ.out.frozen 2; have f3 := HZ.out.frozen 3; have f4 := HZ.out.frozen 4; have f5 := HZ.out.frozen 5)
           | (have HZ := hide (show Blk w3 (W0.heap.size + 1) 29 zeroC from (Blk.drew_ (Blk.new1 (w := W0.alloc (.cells (cfgC A n c st hd se sl) 24)) (by simp) 29 zeroC)).below hb3)
              have z0 : w3.cell? ⟨W0.heap.size + 1, 0, none⟩ = some (.int .i64 0) := HZ.out.cell 0; have z1 : w3.cell? ⟨W0.heap.size + 1, 1, none⟩ = some (.int .i64 0) := HZ.out.cell 1; have z2 : w3.cell? ⟨W0.heap.size + 1, 2, none⟩ = some (.int .i64 0) := HZ.out.cell 2; have z3 : w3.cell? ⟨W0.heap.size + 1, 3, none⟩ = some (.slice none 0 0) := HZ.out.cell 3; have z4 : w3.cell? ⟨W0.heap.size + 1, 4, none⟩ = some (.slice none 0 0) := HZ.out.cell 4; have z5 : w3.cell? ⟨W0.heap.size + 1, 5, none⟩ = some (.slice none 0 0) := HZ.out.cell 5
              have f0 := HZ.out.frozen 0; have f1 := HZ.out.frozen 1; have f2 := HZ.out.frozen 2; have f3 := HZ.out.frozen 3; have f4 := HZ.out.frozen 4; have f5 := HZ.out.frozen 5)
           | skip)))
    all_goals go_wp2_with fail
    all_goals go_meet
    all_goals refine ⟨?_, rfl⟩
    all_goals first
      | (fail_if_success (have := HZ.out)); exact StAt.new hr3 (bT (bD (bA (Below.refl W0.heap.size W0) _)) hb3)
      | exact StAt.set HZ.out hr3 (fun ad e => by have := hA3 ad e; simp at this; omega) (bT (bD (bA (bA (Below.refl W0.heap.size W0) _) _)) hb3) (by omega)
  case rest =>
    obtain ⟨⟨⟨g, r, A2, n2, c2_, rfl, hblk, hnew⟩, hb⟩, rfl⟩ := hcut
    obtain ⟨rfl, rfl, hr3⟩ := hnew HNe.out
    have HB2 := hide (bT HB1.out hb)
    have HS2 := hide hblk
    have HR3 := hide hr3
    have HC2 := hide (HC.out.below hb)
    rw [HNe.out]
    clear hb hblk hr3 hnew c0 c1 c2 c3 c4 lC d0 HC HR HB1
    have e0 : wc.cell? ⟨w.heap.size, 0, none⟩ = some (.slice A n2 c) := HC2.out.cell 0
    have e1 : wc.cell? ⟨w.heap.size, 1, none⟩ = some (.int .i64 st) := HC2.out.cell 1
    have e2 : wc.cell? ⟨w.heap.size, 2, none⟩ = some (.int .i64 hd) := HC2.out.cell 2
    have e3 : wc.cell? ⟨w.heap.size, 3, none⟩ = some (.int .i64 se) := HC2.out.cell 3
    have e4 : wc.cell? ⟨w.heap.size, 4, none⟩ = some (.int .i64 sl) := HC2.out.cell 4
    have s0 : wc.cell? ⟨g, 0, none⟩ = some (.int .i64 (roomOf sl)) := HS2.out.cell 0
    have s1 : wc.cell? ⟨g, 1, none⟩ = some (.int .i64 0) := HS2.out.cell 1
    have s2 : wc.cell? ⟨g, 2, none⟩ = some (.int .i64 0) := HS2.out.cell 2
    have s3 : wc.cell? ⟨g, 3, none⟩ = some (.slice A2 n2 c2_) := HS2.out.cell 3
    have s4 : wc.cell? ⟨g, 4, none⟩ = some (.slice none 0 0) := HS2.out.cell 4
    have s5 : wc.cell? ⟨g, 5, none⟩ = some (.slice none 0 0) := HS2.out.cell 5
    go_wp2_with fail
    refine (HLa.out _ _ _ HB2.out HR3.out).mono ?_
    rintro e w3 ⟨⟨q, cq, gs, A7, c7, rfl, hlo, hhd, hcq, hap⟩, hb3⟩
    obtain ⟨M, hM⟩ : ∃ M, M = (x.length + 127) / 128 := ⟨_, rfl⟩
    rw [← hM] at hlo hap ⊢
    have lCc := World.block_lt_of_cell? _ _ e0
    simp only at lCc
    have f3 := bget hb3 e3
    have lC3 : w.heap.size < w3.heap.size := World.block_lt_of_cell? _ _ f3
    have hMn : M ≤ 1100 := by omega
    have HMe := hide hM
    have hsz3 : wc.heap.size ≤ w3.heap.size := hb3.size
    have HLo := hide hlo
    have HHd := hide hhd
    have HB3 := hide (bT HB2.out hb3)
    obtain ⟨i0, hi0, hz0, hz1, hz2⟩ := info_parts info_write
    clear hlo hhd hb3 hM HB2 HS2 HR3 HC2 e0 e1 e2 e3 e4 s0 s1 s2 s3 s4 s5 HLa
    have HAp := hide hap
    have hvA : ∀ o o' : Obj, ((w3.alloc o).alloc o').ownsRow wc.heap.size 34 2 (.slice A7 M c7) M (wrD ((sl : Int) + 1) gs) := fun o o' => own_below HLo.out.row (bA (bA (Below.refl _ _) o) o')
    have hfar : ∀ (o o' : Obj) (w5 : World), ((w3.alloc o).alloc o').grownBy w5 (Value.slice A7 M c7).ownBlock → w5.cell? ⟨w.heap.size, 3, none⟩ = some (.int .i64 se) := fun o o' w5 hg =>
      (World.cell?_of_block (hg.block w.heap.size (by simp; omega) (fun e => by have := own_base HLo.out.row _ e.symm; omega))).trans (bget (bA (bA (Below.refl _ _) o) o') f3)
    have HFar := hide hfar
    have hmk' : ∀ w : World, (Instr.makeSlice 32 (.int .i64 ((se : Int) * 128)) (.int .i64 ((se : Int) * 128))).run Tryz.prog w = .ok (.slice (some ⟨w.heap.size, 0, none⟩) (se * 128) (se * 128)) (w.alloc (.cells Z 5)) := fun w => HRoom.out w
    have hse := HSe.out
    clear hap f3 hfar
    go_wp2_with (at_builtin; refine wpList_append_lies _ rfl _ _ _ rfl wc.heap.size 34 i0 _ 2 32 Tryz.underlying31 hi0 hz0 hz1 hz2 rfl (by omega) (.slice A7 M c7) M (wrD ((sl : Int) + 1) gs) rfl (hvA _ _) ⟨w3.heap.size + 1, 0, none⟩ 1 1 [.int .i64 (sl : Int), .slice (some ⟨q, 0, none⟩) 128 cq] rfl rfl (by have := World.news_of_block (B := w3.heap.size + 1) (cs := #[.int .i64 (sl : Int), .slice (some ⟨q, 0, none⟩) 128 cq]) (t := 34) (fr := (0, 0)) (Blk.new1 (w := w3.alloc (.cells #[.int .i64 (sl : Int), .slice (some ⟨q, 0, none⟩) 128 cq] 34)) (g := w3.heap.size + 1) (by simp) 34 _); simpa using this) (by simp [Value.oneCell']) (by omega) (by simp only [maxLen]; omega) (by omega) (by simp; omega) (w3.heap.size + 1 + 1) (by simp) ?_; intro gv cap5 w5 hown5 hgrow5 hat5 hlt5; have g3 := HFar.out _ _ w5 hgrow5)
    have hfit : ∀ k, (imgN (se * 128) ((wsN sl 1 x).take k)).length = se * 128 := fun k => ws_fits HMs.out k
    have hm : (wsN sl 1 x).length = M + 1 := by rw [wsN_len, HMe.out]
    have HRFI := hide (RFI.start HLo.out HMe.out HHd.out hcq HAp.out HB3.out (Nat.le_of_lt lCc) hZ hfit hgrow5 hown5 hlt5)
    have hgi : w.heap.size ≤ w5.heap.size := by have := hgrow5.size; simp at this; omega
    have HFit := hide hfit
    obtain ⟨T, hT⟩ : ∃ T, T = wsN sl 1 x := ⟨_, rfl⟩
    have hTq : ∀ (k qk : Nat) (y : List Nat), T[k]? = some (qk, y) → y.length = 128 ∧ qk + 1 ≤ se := fun k qk y h => by
      rw [hT] at h
      obtain ⟨h1, h2⟩ := wsN_at h
      have := HMs.out
      exact ⟨h1, by omega⟩
    have HTq := hide hTq
    rw [← hT] at HRFI HFit HP hm
    generalize hGI : w5.heap.size = gi at *
    clear hown5 hgrow5 hat5 hlt5 HLo HHd hcq HAp HB3 HMs hTq hT hfit hmk' HRoom hvA hz0 hz1 hz2 hi0 HFar g3
    go_loopg [10] (M + 1) (fun gf i wr => ∃ k : Nat, M + 1 ≤ k + gf ∧ k ≤ M + 1 ∧ i = .int .i64 (k : Int) ∧ RFI w gi gv se T (imgN (se * 128) (T.take k)) wr)
    case atStart => exact ⟨0, by omega, by omega, rfl, HRFI.out⟩
    case round =>
      obtain ⟨k, hg, hk, rfl, hI⟩ := hrel
      obtain ⟨gko, rfl⟩ : ∃ q, q = gk := ⟨_, rfl⟩
      have HI := hide hI
      clear hI HRFI
      by_cases hlt : k < M + 1
      · obtain ⟨⟨qk, y⟩, hqy⟩ : ∃ p, T[k]? = some p := ⟨_, List.getElem?_eq_getElem (by omega)⟩
        obtain ⟨hy, hq⟩ := HTq.out k qk y hqy
        have hlt1 : (k : Int) < (M : Int) + 1 := by omega
        have HQ := hide hqy
        have HY := hide hy
        clear hqy hy
        go_wp2_with fail
        go_loopg [11] 128 (fun gf i wx => ∃ m : Nat, 128 ≤ m + gf ∧ m ≤ 128 ∧ i = .int .i64 (m : Int) ∧ RFI w gi gv se T (lay (imgN (se * 128) (T.take k)) (128 * qk) (y.take m)) wx)
        case atStart => exact ⟨0, by omega, by omega, rfl, by rw [List.take_zero, lay_nil]; exact HI.out⟩
        case round =>
          obtain ⟨m, hg2, hm2, rfl, hJ⟩ := hrel
          have HJ := hide hJ
          clear hJ
          by_cases hlm : m < 128
          · have hlm1 : (m : Int) < 128 := by omega
            obtain ⟨b, cb, r1, r2, r3, r4, r5, r6⟩ := HJ.out.row k qk y HQ.out
            obtain ⟨z, hz⟩ : ∃ z, y[m]? = some z := ⟨_, List.getElem?_eq_getElem (by rw [HY.out]; omega)⟩
            obtain ⟨ad, e5, h5⟩ := r4.at_ (k := m) (x := .int .u8 (z : Int)) (by simp [bv, hz])
            cases e5
            have hI : (lay (imgN (se * 128) (T.take k)) (128 * qk) (y.take m)).length = se * 128 := HJ.out.len
            have hqm : qk * 128 + m < se * 128 := by omega
            have i1 : ((qk : Int) * 128 + (m : Int)) < (se : Int) * 128 := by omega
            have i2 : 0 ≤ (qk : Int) * 128 + (m : Int) := by omega
            have k0 : (0 : Int) ≤ (k : Int) := by omega
            have k1 : (k : Int) < (M : Int) + 1 := by omega
            have m0 : (0 : Int) ≤ (m : Int) := by omega
            have w1_ : IntKind.i64.wrap ((qk : Int) * 128) = (qk : Int) * 128 := IntWalk.i64_in _ (by omega)
            have w2_ : IntKind.i64.wrap ((qk : Int) * 128 + (m : Int)) = (qk : Int) * 128 + (m : Int) := IntWalk.i64_in _ (by omega)
            have w3_ : ((qk : Int) * 128 + (m : Int)).toNat = qk * 128 + m := by omega
            have HLI := hide hI
            clear hI r4
            rw [add_at b m] at h5
            go_wp2_with fail
            go_still_tail 18, (by kernel_rfl)
            change wpList _ _ _ _ _ wr.drew
            have hst := (Blk.drew_ HJ.out.img).cell (qk * 128 + m)
            have hfr := (Blk.drew_ HJ.out.img).frozen (qk * 128 + m)
            have hst2 : ∃ u, wr.drew.cell? ⟨gi, qk * 128 + m, none⟩ = some u := ⟨_, hst.trans (Array.getElem?_eq_getElem (by simp [bv, HLI.out]; omega))⟩
            obtain ⟨u, hst2⟩ := hst2
            have r1' : wr.drew.cell? ⟨gv, k * 2, none⟩ = some (.int .i64 (qk : Int)) := r1
            have r2' : wr.drew.cell? ⟨gv, k * 2 + 1, none⟩ = some (.slice (some ⟨b, 0, none⟩) 128 cb) := r2
            have h5' : wr.drew.cell? ⟨b, m, none⟩ = some (.int .u8 (z : Int)) := h5
            have HZ := hide hz
            clear hst r1 r2 h5 hz
            have HJD := hide (HJ.out.drew.set (i := qk * 128 + m) (b := z) hgi)
            generalize wr.drew = wd at *
            go_wp2_with fail
            go_roundg (gk - 1)
            case measure => omega
            case rel =>
              refine ⟨m + 1, by omega, by omega, by go_num, ?_⟩
              have e1 : lay (imgN (se * 128) (T.take k)) (128 * qk) (y.take (m + 1)) = (lay (imgN (se * 128) (T.take k)) (128 * qk) (y.take m)).set (qk * 128 + m) z := by
                have hl : (y.take m).length = m := by rw [List.length_take, HY.out]; omega
                rw [take_one HZ.out, lay_snoc _ _ _ _ (by rw [hl, HFit.out k]; omega), hl, Nat.mul_comm 128 qk]
              rw [e1]
              exact HJD.out
          · obtain rfl : m = 128 := by omega
            have e1 : lay (imgN (se * 128) (T.take k)) (128 * qk) (y.take 128) = imgN (se * 128) (T.take (k + 1)) := by
              rw [take_one HQ.out, img_snoc, List.take_of_length_le (l := y) (by rw [HY.out]; omega)]
            have HE1 := hide e1
            clear e1
            go_wp2_with fail
            go_roundg (gko - 1)
            case measure => omega
            case rel => exact ⟨k + 1, by omega, by omega, by go_num, by rw [← HE1.out]; exact HJ.out⟩
      · obtain rfl : k = M + 1 := by omega
        have hnlt : ¬ ((M : Int) + 1 < (M : Int) + 1) := by omega
        have e1 : imgN (se * 128) (T.take (M + 1)) = imgN (se * 128) T := by rw [List.take_of_length_le (by omega)]
        have hi := HI.out.img
        have hlen := HI.out.len
        rw [e1] at hi hlen
        have hres := HP.out gi _ HI.out.low (Rd.of_blk hi (by simp) (by simp [hlen]))
        have HRes := hide hres
        clear hres hi hlen HP e1
        go_wp2_with fail
        go_ret2
        exact HRes.out
end Go.Proofs.YtnaapkoladiomaaGreatDoor.B
