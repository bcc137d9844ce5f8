/- MendFull: what mend.Format and mend.Recover do, by the step machine. -/
import Derived.Test.YtaokjpbgdehhiaaGreatDoorFLaid
import Derived.Test.YtaokjpbgdehhiaaGreatDoorFDk
import Derived.Test.YtaokjpbgdehhiaaGreatDoorEvPF1
import Derived.Test.YtaokjpbgdehhiaaGreatDoorEvPR01
import Derived.Test.YtaokjpbgdehhiaaGreatDoorEvPR11
import Derived.Test.YtaokjpbgdehhiaaGreatDoorEvPR21
import Derived.Test.YtaokjpbgdehhiaaGreatDoorEvPR31
import Derived.Test.YtaokjpbgdehhiaaGreatDoorEvPR41
import Derived.Test.YtaokjpbgdehhiaaGreatDoorEvPR51
import Derived.Test.YtaokjpbgdehhiaaGreatDoorEvPR61
namespace Go.Proofs.YtaokjpbgdehhiaaGreatDoor.K
open Go Go.RowKit Go.Ev

theorem or_row {P : Program} {r : Ren} {b elem : Nat} {rw opn : Bool} {vs : List V} {cs : Array Value} {fz : Nat × Nat} (hp : ∀ (i : Nat) (v : V), vs[i]? = some v → ∃ x, cs[i]? = some x ∧ VR r v x) (hlen : vs.length ≤ cs.size)
    (hf : rw = true → ∀ i, i < cs.size → ¬ (fz.1 ≤ i ∧ i < fz.2)) (ho : opn = true → cs.size = r.cap b * P.cellsOf elem) : OR P r (some (.cells cs elem fz)) b (.cells elem rw opn vs.length [] (rowT vs)) := by
  refine ⟨cs, fz, rfl, hf, fun i v hi => ?_, hlen, ho⟩
  have e : rowT vs = sets vs T.e 0 := by unfold rowT; rw [setsK_eq]; rfl
  rw [e] at hi
  exact hp i v (cellAt_new vs hi)
theorem or_vrs {P : Program} {r : Ren} {b elem : Nat} {vs : List V} {cs : Array Value} {fz : Nat × Nat} (hv : VRs r vs cs.toList) : OR P r (some (.cells cs elem fz)) b (.cells elem false false vs.length [] (rowT vs)) :=
  or_row (fun i v hi => by
    obtain ⟨x, hx, hr⟩ := hv.get hi
    exact ⟨x, by simpa using hx, hr⟩) (by have := hv.length; simp at this; omega) (fun h => by cases h) (fun h => by cases h)
theorem vrs_bys {r : Ren} : ∀ (l : List Nat), VRs r (bys l) (B.bv l)
  | [] => .nil
  | n :: l => .cons _ _ _ _ (.int .u8 n) (vrs_bys l)
/-- What stands at the beginning: the two package-level variables. -/
structure Globs (w : World) (e0 e1 : Nat) : Prop where
  fl : ∃ cs fr, w.heap[0]? = some (.cells cs e0 fr) ∧ cs.toList = .int .i64 (-1) :: (List.replicate 128 (0 : Int)).map (.int .u8)
  tab : ∃ cs fr, w.heap[1]? = some (.cells cs e1 fr) ∧ cs.toList = tabN.map (.int .u32)
theorem Globs.below {w w' : World} {e0 e1 : Nat} (h : Globs w e0 e1) (hb : Below w.heap.size w w') : Globs w' e0 e1 := by
  obtain ⟨⟨c0, f0, h0, g0⟩, c1, f1, h1, g1⟩ := h
  exact ⟨⟨c0, f0, by rw [hb.block _ (Array.getElem?_eq_some_iff.1 h0).1]; exact h0, g0⟩, c1, f1, by rw [hb.block _ (Array.getElem?_eq_some_iff.1 h1).1]; exact h1, g1⟩
/-- The codes of the configuration. -/
def CodesAt (w : World) (c0 : Nat) : Prop := ∃ cs fr, w.heap[c0]? = some (.cells cs 9 fr) ∧ cs.toList = [.string ⟨#[97]⟩, .string ⟨#[98]⟩]
abbrev cfgV (c0 : Nat) : Value := .agg #[.slice (some ⟨c0, 0, none⟩) 2 2, .int .i64 4, .int .i64 2, .int .i64 16, .int .i64 4]
abbrev flV : List V := V.int .i64 (-1) :: (List.replicate 128 (0 : Int)).map (V.int .u8)
abbrev tabV : List V := tabN.map (V.int .u32)
abbrev codV : List V := [.str [97], .str [98]]
theorem flV_ok {r : Ren} {l : List Value} (h : l = .int .i64 (-1) :: (List.replicate 128 (0 : Int)).map (.int .u8)) : VRs r flV l := by rw [h]; exact .cons _ _ _ _ (.int _ _) (vrs_ints _ _)
theorem tabV_ok {r : Ren} {l : List Value} (h : l = tabN.map (.int .u32)) : VRs r tabV l := by rw [h]; exact vrs_ints _ _
theorem codV_ok {r : Ren} {l : List Value} (h : l = [.string ⟨#[97]⟩, .string ⟨#[98]⟩]) : VRs r codV l := by
  rw [h]; exact .cons _ _ _ _ (.str _ _ rfl) (.cons _ _ _ _ (.str _ _ rfl) .nil)

-- Format
def rF (c0 : Nat) : Ren := { at_ := fun b => if b < 500 then some b else if b = 1000 then some c0 else none, cap := fun _ => 0 }
theorem beginF_h (e0 e1 : Nat) : (sF0 e0 e1).h = ⟨layT [(0, .cells e0 false false flV.length [] (rowT flV)), (1, .cells e1 false false tabV.length [] (rowT tabV)), (1000, .cells 9 false false codV.length [] (rowT codV))], 1001⟩ := by kernel_rfl
theorem beginF_s (e0 e1 : Nat) : callK Tryz.prog 5 [.agg [.sl 1000 0 2 (.exact 2), .int .i64 4, .int .i64 2, .int .i64 16, .int .i64 4]] false [] (sF0 e0 e1).h = some (sF0 e0 e1) := by kernel_rfl
theorem endF_v (e0 e1 : Nat) : Ev.results Tryz.prog 5 (sF1 e0 e1).top.tm (sF1 e0 e1).h = some (.tup [.sl 1191 0 2048 (.exact 2048), .int .i64 0]) := by kernel_rfl
theorem endF_i (e0 e1 : Nat) : loadN (sF1 e0 e1).h 1191 0 2048 = some (bys imgN) := by kernel_rfl
theorem img_len : imgN.length = 2048 := by kernel_rfl
theorem cfg_ok {r : Ren} {c0 : Nat} (h : r.at_ 1000 = some c0) : VR r (.agg [.sl 1000 0 2 (.exact 2), .int .i64 4, .int .i64 2, .int .i64 16, .int .i64 4]) (cfgV c0) :=
  .agg _ _ (.cons _ _ _ _ (.slx _ _ _ _ _ h) (.cons _ _ _ _ (.int _ _) (.cons _ _ _ _ (.int _ _) (.cons _ _ _ _ (.int _ _) (.cons _ _ _ _ (.int _ _) .nil)))))
theorem format_run {w : World} {e0 e1 c0 : Nat} (hg : Globs w e0 e1) (hc : CodesAt w c0) (h2 : 2 ≤ c0) :
    Calls Tryz.prog 5 #[cfgV c0] w fun e w' => (∃ c, e = .returned (.tuple #[.slice (some ⟨c, 0, none⟩) 2048 2048, .int .i64 0]) ∧ B.Rd w' 1 (some ⟨c, 0, none⟩) 2048 (B.bv imgN)) ∧ Below w.heap.size w w' := by
  obtain ⟨⟨c0', f0, h0, g0⟩, c1, f1, h1, g1⟩ := hg
  obtain ⟨cc, fc, hcc, gc⟩ := hc
  have hr : HR Tryz.prog (base w) (rF c0) (sF0 e0 e1).h w := by
    rw [beginF_h]
    refine HR.of (Below.refl _ _) (fun b o hb hl => ?_) (fun b o b' o' c hb hb' h3 h4 => ?_) (fun b hb => ?_) (fun g hg => ?_) (fun b c h => by cases h) (by decide) (fun b c h3 h4 h5 => ?_) noFar
    · simp only [List.mem_cons, Prod.mk.injEq, List.not_mem_nil, or_false] at hb
      rcases hb with ⟨rfl, rfl⟩ | ⟨rfl, rfl⟩ | ⟨rfl, rfl⟩
      · exact ⟨_, rfl, by rw [h0]; exact or_vrs (flV_ok g0), fun h => by cases h⟩
      · exact ⟨_, rfl, by rw [h1]; exact or_vrs (tabV_ok g1), fun h => by cases h⟩
      · exact ⟨c0, rfl, by rw [hcc]; exact or_vrs (codV_ok gc), fun h => by cases h⟩
    · simp only [List.mem_cons, Prod.mk.injEq, List.not_mem_nil, or_false] at hb hb'
      rcases hb with ⟨rfl, _⟩ | ⟨rfl, _⟩ | ⟨rfl, _⟩ <;> rcases hb' with ⟨rfl, _⟩ | ⟨rfl, _⟩ | ⟨rfl, _⟩ <;> simp [rF] at h3 h4 <;> omega
    · simp only [rF]; rw [if_neg (by omega), if_neg (by omega)]
    · simp only [rF]; rw [if_pos hg]
    · simp only [rF] at h5; rw [if_neg (by omega), if_neg (by omega)] at h5; cases h5
  refine (calls_mem (w0 := w) (xs := [cfgV c0]) (v := .tup [.sl 1191 0 2048 (.exact 2048), .int .i64 0]) (h := (sF1 e0 e1).h) fun tail => ⟨sF1 e0 e1,
    (To.start hr (.cons _ _ _ _ (cfg_ok rfl) .nil) (beginF_s e0 e1)).piece (pF1 e0 e1), rfl, rfl, rfl, rfl, rfl, rfl, endF_v e0 e1⟩).mono ?_
  rintro e w' ⟨r, x, rfl, hv, hr'⟩
  obtain ⟨y, rfl, hy⟩ := hv.tup_inv
  cases hy with
  | cons _ a _ y ha hy =>
  cases hy with
  | cons _ b _ z hb hz =>
  cases hz
  cases ha with
  | slx _ _ _ _ c hc' =>
  refine ⟨⟨c, by rw [hb.int_inv], ⟨by rw [B.bv_length, img_len], fun _ => ⟨_, rfl, fun j u hu => ?_⟩⟩⟩, hr'.below⟩
  have hl := endF_i e0 e1
  unfold loadN at hl
  split at hl
  · rename_i elem rw opn size z t hb'
    obtain ⟨cs, fz, k0, _, k2, _⟩ := hr'.cells hb' hc'
    obtain ⟨m, em, _, hm⟩ := cellsAt_spec t size z 0 2048 [] _ hl
    simp at em; subst em
    obtain ⟨v, hv1, hv2⟩ : ∃ v, (bys imgN)[j]? = some v ∧ VR r v u := by
      have := (vrs_bys (r := r) imgN)
      have hlen := this.length
      have hj := (List.getElem?_eq_some_iff.1 hu).1
      obtain ⟨v, hv⟩ : ∃ v, (bys imgN)[j]? = some v := ⟨_, List.getElem?_eq_getElem (by rw [hlen]; exact hj)⟩
      obtain ⟨q, hq, hvr⟩ := this.get hv
      rw [hu] at hq; cases hq
      exact ⟨v, hv, hvr⟩
    have h6 := hm j v hv1
    rw [Nat.zero_add] at h6
    obtain ⟨q, hq, hvr⟩ := k2 j v h6
    have hqu : q = u := by
      have hv3 : ∃ n : Nat, v = .int .u8 n := by
        unfold bys at hv1
        rw [List.getElem?_map] at hv1
        cases h7 : imgN[j]? with
        | none => rw [h7] at hv1; cases hv1
        | some n => rw [h7] at hv1; cases hv1; exact ⟨n, rfl⟩
      obtain ⟨n, rfl⟩ := hv3
      rw [hvr.int_inv, hv2.int_inv]
    rw [add_none, Nat.zero_add, cell?_of k0, hq, hqu]
  · cases hl

-- Recover
def rR (c0 g a1 c1 g2 c2 g3 c3 : Nat) : Ren :=
  { at_ := fun b => if b < 500 then some b else if b = 1000 then some c0 else if b = 1001 then some g else if b = 1002 then some g2 else if b = 1003 then some g3 else if b = 1004 then some a1 else none
    cap := fun b => if b = 1002 then c2 else if b = 1003 then c3 else if b = 1004 then c1 else 0 }
theorem cellsU8 : Tryz.prog.cellsOf 5 = 1 := by kernel_rfl
theorem cellsOp : Tryz.prog.cellsOf 57 = 129 := by kernel_rfl
abbrev dkV (cnt : Nat) : List V := [.sl 1004 0 2048 (.upto 0), .sl 1002 0 2048 (.upto 0), .sl 1003 0 cnt (.upto 0)]
noncomputable abbrev recH (cnt e0 e1 : Nat) : H := ⟨layT [(0, .cells e0 false false flV.length [] (rowT flV)), (1, .cells e1 false false tabV.length [] (rowT tabV)), (1000, .cells 9 false false codV.length [] (rowT codV)),
  (1001, .cells 53 true false (dkV cnt).length [] (rowT (dkV cnt))), (1002, .cells 5 true true (bys imgN).length [] (rowT (bys imgN))), (1003, .cells 57 true true (cnt * 129) [] .e)], 1005⟩
abbrev nm (g : Nat) : Nat → Option Nat := fun b => if b = 1001 then some g else none
/-- A disk as Recover meets it. -/
structure At (W w : World) (e0 e1 c0 g a1 c1 g2 c2 g3 c3 cnt : Nat) : Prop where
  bel : Below W.heap.size W w
  gl : Globs w e0 e1
  cod : CodesAt w c0
  lc : 2 ≤ c0
  cW : c0 < W.heap.size
  W2 : 2 ≤ W.heap.size
  dk : B.Blk w g 53 #[.slice (some ⟨a1, 0, none⟩) 2048 c1, .slice (some ⟨g2, 0, none⟩) 2048 c2, .slice (some ⟨g3, 0, none⟩) cnt c3]
  seen : w.ownsRow 0 5 1 (.slice (some ⟨g2, 0, none⟩) 2048 c2) 2048 (B.bv imgN)
  ops : ∃ xs, w.ownsRow 0 57 129 (.slice (some ⟨g3, 0, none⟩) cnt c3) cnt xs
  n1 : g ≠ g2
  n2 : g3 ≠ g
  n3 : g3 ≠ g2
  l1 : W.heap.size ≤ g
  l2 : W.heap.size ≤ g2
  l3 : W.heap.size ≤ g3
theorem At.hr {W w : World} {e0 e1 c0 g a1 c1 g2 c2 g3 c3 cnt : Nat} (h : At W w e0 e1 c0 g a1 c1 g2 c2 g3 c3 cnt) : HR Tryz.prog (baseN W (nm g) fun _ => none) (rR c0 g a1 c1 g2 c2 g3 c3) (recH cnt e0 e1) w := by
  obtain ⟨⟨k0, f0, h0, z0⟩, k1, f1, h1, z1⟩ := h.gl
  obtain ⟨cc, fc, hcc, gc⟩ := h.cod
  have hW2 := h.W2
  have hc2 := h.lc
  have hcW := h.cW
  have n1 := h.n1
  have n2 := h.n2
  have n3 := h.n3
  have l1 := h.l1
  have l2 := h.l2
  have l3 := h.l3
  refine HR.of h.bel (fun b o hb hl => ?_) (fun b o b' o' c hb hb' h3 h4 => ?_) (fun b hb => ?_) (fun q hq => ?_) (fun b c hb => ?_) (by decide) (fun b c h3 h4 h5 => ?_) noFar
  · simp only [List.mem_cons, Prod.mk.injEq, List.not_mem_nil, or_false] at hb
    rcases hb with ⟨rfl, rfl⟩ | ⟨rfl, rfl⟩ | ⟨rfl, rfl⟩ | ⟨rfl, rfl⟩ | ⟨rfl, rfl⟩ | ⟨rfl, rfl⟩
    · exact ⟨_, rfl, by rw [h0]; exact or_vrs (flV_ok z0), fun h => by cases h⟩
    · exact ⟨_, rfl, by rw [h1]; exact or_vrs (tabV_ok z1), fun h => by cases h⟩
    · exact ⟨c0, rfl, by rw [hcc]; exact or_vrs (codV_ok gc), fun h => by cases h⟩
    · refine ⟨g, rfl, ?_, fun _ => l1⟩
      have hd : w.heap[g]? = _ := h.dk
      rw [hd]
      have hv : VRs (rR c0 g a1 c1 g2 c2 g3 c3) (dkV cnt) [.slice (some ⟨a1, 0, none⟩) 2048 c1, .slice (some ⟨g2, 0, none⟩) 2048 c2, .slice (some ⟨g3, 0, none⟩) cnt c3] :=
        .cons _ _ _ _ (.slu _ _ _ _ _ _ rfl rfl) (.cons _ _ _ _ (.slu _ _ _ _ _ _ rfl rfl) (.cons _ _ _ _ (.slu _ _ _ _ _ _ rfl rfl) .nil))
      exact or_row (fun i v hi => by
        obtain ⟨x, hx, hr⟩ := hv.get hi
        exact ⟨x, by simpa using hx, hr⟩) (by simp) (fun _ => no_fz _) (fun h => by cases h)
    · refine ⟨g2, rfl, ?_, fun _ => l2⟩
      obtain ⟨hlen, hs⟩ := h.seen
      rcases hs with ⟨_, h0⟩ | ⟨q, cap, cur, hq, _, hcur, hn, _, hsz, htk⟩
      · cases h0
      · injection hq with hq1 hq2 hq3
        injection hq1 with hq1
        injection hq1 with hq1
        subst hq1 hq3
        rw [hcur]
        refine or_row (fun i v hi => ?_) ?_ (fun _ => no_fz _) (fun _ => ?_)
        · obtain ⟨x, hx, hr⟩ := (vrs_bys (r := rR c0 g a1 c1 g2 c2 g3 c3) imgN).get hi
          refine ⟨x, ?_, hr⟩
          rw [← htk] at hx
          rw [List.getElem?_take] at hx
          split at hx
          · simpa using hx
          · cases hx
        · have := (vrs_bys (r := rR c0 g a1 c1 g2 c2 g3 c3) imgN).length
          rw [this, B.bv_length, img_len, hsz]; omega
        · rw [hsz, cellsU8]; rfl
    · refine ⟨g3, rfl, ?_, fun _ => l3⟩
      obtain ⟨xs, hlen, hs⟩ := h.ops
      rcases hs with ⟨h0, _⟩ | ⟨q, cap, cur, hq, _, hcur, hn, _, hsz, htk⟩
      · cases h0
      · injection hq with hq1 hq2 hq3
        injection hq1 with hq1
        injection hq1 with hq1
        subst hq1 hq3
        rw [hcur]
        refine ⟨cur, (0, 0), rfl, fun _ => no_fz _, fun i v hi => ?_, ?_, fun _ => ?_⟩
        · rw [cellAt_eq, T.get_e] at hi
          split at hi
          · cases hi
          · cases hi
        · rw [hsz]; exact Nat.mul_le_mul_right _ hn
        · rw [hsz, cellsOp]; rfl
  · simp only [List.mem_cons, Prod.mk.injEq, List.not_mem_nil, or_false] at hb hb'
    rcases hb with ⟨rfl, _⟩ | ⟨rfl, _⟩ | ⟨rfl, _⟩ | ⟨rfl, _⟩ | ⟨rfl, _⟩ | ⟨rfl, _⟩ <;> rcases hb' with ⟨rfl, _⟩ | ⟨rfl, _⟩ | ⟨rfl, _⟩ | ⟨rfl, _⟩ | ⟨rfl, _⟩ | ⟨rfl, _⟩ <;> simp [rR] at h3 h4 <;> omega
  · have hb : 1005 ≤ b := hb
    simp only [rR]; rw [if_neg (by omega), if_neg (by omega), if_neg (by omega), if_neg (by omega), if_neg (by omega), if_neg (by omega)]
  · simp only [rR]; rw [if_pos hq]
  · simp only [nm] at hb
    split at hb
    · rename_i h; subst h; cases hb; rfl
    · cases hb
  · simp only [rR] at h5; rw [if_neg (by omega), if_neg (by omega), if_neg (by omega), if_neg (by omega), if_neg (by omega), if_neg (by omega)] at h5; cases h5
/-- What Recover answers, so many operations ahead of the last. -/
def RecPost (k g : Nat) (e : Ending) (w' : World) : Prop := ∃ (a b c : Int) (lv : Value) (ep er : Int) (A : Option Addr) (n2 cp : Nat), e = .returned (.tuple #[.agg #[.int .i64 a, .int .i64 b, .int .i64 c, lv, .slice none 0 0, .slice none 0 0], .int .i64 ep, .int .i64 0, .int .i64 er]) ∧
  w'.cell? ⟨g, 2, none⟩ = some (.slice A n2 cp) ∧ ((4 ≤ k ∧ ep = 2 ∧ er = 0 ∧ (∃ A' c', lv = .slice A' 2 c') ∧ n2 = 65536 - k + 4) ∨ (k < 4 ∧ ep = 0 ∧ er = 5 ∧ lv = .slice none 0 0 ∧ n2 = 65536))
theorem rec_tup {r : Ren} {x : Value} {n0 n1 n2 : Int} {l : V} {ep er : Int} (hv : VR r (.tup [.agg [.int .i64 n0, .int .i64 n1, .int .i64 n2, l, .nils, .nils], .int .i64 ep, .int .i64 0, .int .i64 er]) x) :
    ∃ lv, x = .tuple #[.agg #[.int .i64 n0, .int .i64 n1, .int .i64 n2, lv, .slice none 0 0, .slice none 0 0], .int .i64 ep, .int .i64 0, .int .i64 er] ∧ VR r l lv := by
  obtain ⟨y, rfl, hy⟩ := hv.tup_inv
  cases hy with
  | cons _ a _ y ha hy =>
  cases hy with
  | cons _ b _ y hb hy =>
  cases hy with
  | cons _ c _ y hc hy =>
  cases hy with
  | cons _ d _ y hd hy =>
  cases hy
  obtain ⟨z, rfl, hz⟩ := ha.agg_inv
  cases hz with
  | cons _ x0 _ z h0 hz =>
  cases hz with
  | cons _ x1 _ z h1 hz =>
  cases hz with
  | cons _ x2 _ z h2 hz =>
  cases hz with
  | cons _ x3 _ z h3 hz =>
  cases hz with
  | cons _ x4 _ z h4 hz =>
  cases hz with
  | cons _ x5 _ z h5 hz =>
  cases hz
  exact ⟨x3, by rw [hb.int_inv, hc.int_inv, hd.int_inv, h0.int_inv, h1.int_inv, h2.int_inv, h4.nils_inv, h5.nils_inv], h3⟩
theorem dk_ok {r : Ren} {g c0 : Nat} (h1 : r.at_ 1001 = some g) (h2 : r.at_ 1000 = some c0) : VRs r [.ptr 1001 0, .agg [.sl 1000 0 2 (.exact 2), .int .i64 4, .int .i64 2, .int .i64 16, .int .i64 4]] [.pointer (some ⟨g, 0, none⟩), cfgV c0] :=
  .cons _ _ _ _ (.ptr _ _ _ h1) (.cons _ _ _ _ (cfg_ok h2) .nil)
theorem beginR0_h (e0 e1 : Nat) : (sR00 e0 e1).h = recH 65536 e0 e1 := by kernel_rfl
theorem beginR0_s (e0 e1 : Nat) : callK Tryz.prog 10 [.ptr 1001 0, .agg [.sl 1000 0 2 (.exact 2), .int .i64 4, .int .i64 2, .int .i64 16, .int .i64 4]] false [] (sR00 e0 e1).h = some (sR00 e0 e1) := by kernel_rfl
theorem endR0_v (e0 e1 : Nat) : Ev.results Tryz.prog 10 (sR01 e0 e1).top.tm (sR01 e0 e1).h = some (.tup [.agg [.int .i64 0, .int .i64 0, .int .i64 0, .nils, .nils, .nils], .int .i64 0, .int .i64 0, .int .i64 5]) := by kernel_rfl
theorem endR0_c (e0 e1 : Nat) : load1 (sR01 e0 e1).h 1001 2 = some (.sl 1003 0 65536 (.upto 0)) := by kernel_rfl
theorem recover_run0 {W w : World} {e0 e1 c0 g a1 c1 g2 c2 g3 c3 : Nat} (h : At W w e0 e1 c0 g a1 c1 g2 c2 g3 c3 65536) :
    Calls Tryz.prog 10 #[.pointer (some ⟨g, 0, none⟩), cfgV c0] w fun e w' => RecPost 0 g e w' ∧ Below W.heap.size W w' := by
  have hr : HR Tryz.prog (baseN W (nm g) fun _ => none) (rR c0 g a1 c1 g2 c2 g3 c3) (sR00 e0 e1).h w := by rw [beginR0_h]; exact h.hr
  refine (calls_mem (w0 := W) (xs := [.pointer (some ⟨g, 0, none⟩), cfgV c0]) (h := (sR01 e0 e1).h) fun tail => ⟨sR01 e0 e1,
    (To.start hr (dk_ok rfl rfl) (beginR0_s e0 e1)).piece (pR01 e0 e1), rfl, rfl, rfl, rfl, rfl, rfl, endR0_v e0 e1⟩).mono ?_
  rintro e w' ⟨r, x, rfl, hv, hr'⟩
  obtain ⟨lv, rfl, hl⟩ := rec_tup hv
  have hat : r.at_ 1001 = some g := hr'.names 1001 g rfl
  obtain ⟨q, hq, hvq⟩ := load1_ok hr' hat (endR0_c e0 e1)
  obtain ⟨c, m, rfl, _⟩ := hvq.sl_inv
  exact ⟨⟨_, _, _, lv, _, _, _, _, _, rfl, hq, .inr ⟨by decide, rfl, rfl, hl.nils_inv, rfl⟩⟩, hr'.below⟩
theorem beginR1_h (e0 e1 : Nat) : (sR10 e0 e1).h = recH 65535 e0 e1 := by kernel_rfl
theorem beginR1_s (e0 e1 : Nat) : callK Tryz.prog 10 [.ptr 1001 0, .agg [.sl 1000 0 2 (.exact 2), .int .i64 4, .int .i64 2, .int .i64 16, .int .i64 4]] false [] (sR10 e0 e1).h = some (sR10 e0 e1) := by kernel_rfl
theorem endR1_v (e0 e1 : Nat) : Ev.results Tryz.prog 10 (sR11 e0 e1).top.tm (sR11 e0 e1).h = some (.tup [.agg [.int .i64 0, .int .i64 0, .int .i64 0, .nils, .nils, .nils], .int .i64 0, .int .i64 0, .int .i64 5]) := by kernel_rfl
theorem endR1_c (e0 e1 : Nat) : load1 (sR11 e0 e1).h 1001 2 = some (.sl 1339 0 65536 (.upto 0)) := by kernel_rfl
theorem recover_run1 {W w : World} {e0 e1 c0 g a1 c1 g2 c2 g3 c3 : Nat} (h : At W w e0 e1 c0 g a1 c1 g2 c2 g3 c3 65535) :
    Calls Tryz.prog 10 #[.pointer (some ⟨g, 0, none⟩), cfgV c0] w fun e w' => RecPost 1 g e w' ∧ Below W.heap.size W w' := by
  have hr : HR Tryz.prog (baseN W (nm g) fun _ => none) (rR c0 g a1 c1 g2 c2 g3 c3) (sR10 e0 e1).h w := by rw [beginR1_h]; exact h.hr
  refine (calls_mem (w0 := W) (xs := [.pointer (some ⟨g, 0, none⟩), cfgV c0]) (h := (sR11 e0 e1).h) fun tail => ⟨sR11 e0 e1,
    (To.start hr (dk_ok rfl rfl) (beginR1_s e0 e1)).piece (pR11 e0 e1), rfl, rfl, rfl, rfl, rfl, rfl, endR1_v e0 e1⟩).mono ?_
  rintro e w' ⟨r, x, rfl, hv, hr'⟩
  obtain ⟨lv, rfl, hl⟩ := rec_tup hv
  have hat : r.at_ 1001 = some g := hr'.names 1001 g rfl
  obtain ⟨q, hq, hvq⟩ := load1_ok hr' hat (endR1_c e0 e1)
  obtain ⟨c, m, rfl, _⟩ := hvq.sl_inv
  exact ⟨⟨_, _, _, lv, _, _, _, _, _, rfl, hq, .inr ⟨by decide, rfl, rfl, hl.nils_inv, rfl⟩⟩, hr'.below⟩
theorem beginR2_h (e0 e1 : Nat) : (sR20 e0 e1).h = recH 65534 e0 e1 := by kernel_rfl
theorem beginR2_s (e0 e1 : Nat) : callK Tryz.prog 10 [.ptr 1001 0, .agg [.sl 1000 0 2 (.exact 2), .int .i64 4, .int .i64 2, .int .i64 16, .int .i64 4]] false [] (sR20 e0 e1).h = some (sR20 e0 e1) := by kernel_rfl
theorem endR2_v (e0 e1 : Nat) : Ev.results Tryz.prog 10 (sR21 e0 e1).top.tm (sR21 e0 e1).h = some (.tup [.agg [.int .i64 0, .int .i64 0, .int .i64 0, .nils, .nils, .nils], .int .i64 0, .int .i64 0, .int .i64 5]) := by kernel_rfl
theorem endR2_c (e0 e1 : Nat) : load1 (sR21 e0 e1).h 1001 2 = some (.sl 1341 0 65536 (.upto 0)) := by kernel_rfl
theorem recover_run2 {W w : World} {e0 e1 c0 g a1 c1 g2 c2 g3 c3 : Nat} (h : At W w e0 e1 c0 g a1 c1 g2 c2 g3 c3 65534) :
    Calls Tryz.prog 10 #[.pointer (some ⟨g, 0, none⟩), cfgV c0] w fun e w' => RecPost 2 g e w' ∧ Below W.heap.size W w' := by
  have hr : HR Tryz.prog (baseN W (nm g) fun _ => none) (rR c0 g a1 c1 g2 c2 g3 c3) (sR20 e0 e1).h w := by rw [beginR2_h]; exact h.hr
  refine (calls_mem (w0 := W) (xs := [.pointer (some ⟨g, 0, none⟩), cfgV c0]) (h := (sR21 e0 e1).h) fun tail => ⟨sR21 e0 e1,
    (To.start hr (dk_ok rfl rfl) (beginR2_s e0 e1)).piece (pR21 e0 e1), rfl, rfl, rfl, rfl, rfl, rfl, endR2_v e0 e1⟩).mono ?_
  rintro e w' ⟨r, x, rfl, hv, hr'⟩
  obtain ⟨lv, rfl, hl⟩ := rec_tup hv
  have hat : r.at_ 1001 = some g := hr'.names 1001 g rfl
  obtain ⟨q, hq, hvq⟩ := load1_ok hr' hat (endR2_c e0 e1)
  obtain ⟨c, m, rfl, _⟩ := hvq.sl_inv
  exact ⟨⟨_, _, _, lv, _, _, _, _, _, rfl, hq, .inr ⟨by decide, rfl, rfl, hl.nils_inv, rfl⟩⟩, hr'.below⟩
theorem beginR3_h (e0 e1 : Nat) : (sR30 e0 e1).h = recH 65533 e0 e1 := by kernel_rfl
theorem beginR3_s (e0 e1 : Nat) : callK Tryz.prog 10 [.ptr 1001 0, .agg [.sl 1000 0 2 (.exact 2), .int .i64 4, .int .i64 2, .int .i64 16, .int .i64 4]] false [] (sR30 e0 e1).h = some (sR30 e0 e1) := by kernel_rfl
theorem endR3_v (e0 e1 : Nat) : Ev.results Tryz.prog 10 (sR31 e0 e1).top.tm (sR31 e0 e1).h = some (.tup [.agg [.int .i64 0, .int .i64 0, .int .i64 0, .nils, .nils, .nils], .int .i64 0, .int .i64 0, .int .i64 5]) := by kernel_rfl
theorem endR3_c (e0 e1 : Nat) : load1 (sR31 e0 e1).h 1001 2 = some (.sl 1346 0 65536 (.upto 0)) := by kernel_rfl
theorem recover_run3 {W w : World} {e0 e1 c0 g a1 c1 g2 c2 g3 c3 : Nat} (h : At W w e0 e1 c0 g a1 c1 g2 c2 g3 c3 65533) :
    Calls Tryz.prog 10 #[.pointer (some ⟨g, 0, none⟩), cfgV c0] w fun e w' => RecPost 3 g e w' ∧ Below W.heap.size W w' := by
  have hr : HR Tryz.prog (baseN W (nm g) fun _ => none) (rR c0 g a1 c1 g2 c2 g3 c3) (sR30 e0 e1).h w := by rw [beginR3_h]; exact h.hr
  refine (calls_mem (w0 := W) (xs := [.pointer (some ⟨g, 0, none⟩), cfgV c0]) (h := (sR31 e0 e1).h) fun tail => ⟨sR31 e0 e1,
    (To.start hr (dk_ok rfl rfl) (beginR3_s e0 e1)).piece (pR31 e0 e1), rfl, rfl, rfl, rfl, rfl, rfl, endR3_v e0 e1⟩).mono ?_
  rintro e w' ⟨r, x, rfl, hv, hr'⟩
  obtain ⟨lv, rfl, hl⟩ := rec_tup hv
  have hat : r.at_ 1001 = some g := hr'.names 1001 g rfl
  obtain ⟨q, hq, hvq⟩ := load1_ok hr' hat (endR3_c e0 e1)
  obtain ⟨c, m, rfl, _⟩ := hvq.sl_inv
  exact ⟨⟨_, _, _, lv, _, _, _, _, _, rfl, hq, .inr ⟨by decide, rfl, rfl, hl.nils_inv, rfl⟩⟩, hr'.below⟩
theorem beginR4_h (e0 e1 : Nat) : (sR40 e0 e1).h = recH 65532 e0 e1 := by kernel_rfl
theorem beginR4_s (e0 e1 : Nat) : callK Tryz.prog 10 [.ptr 1001 0, .agg [.sl 1000 0 2 (.exact 2), .int .i64 4, .int .i64 2, .int .i64 16, .int .i64 4]] false [] (sR40 e0 e1).h = some (sR40 e0 e1) := by kernel_rfl
theorem endR4_v (e0 e1 : Nat) : Ev.results Tryz.prog 10 (sR41 e0 e1).top.tm (sR41 e0 e1).h = some (.tup [.agg [.int .i64 384, .int .i64 0, .int .i64 0, .sl 1167 0 2 (.upto 0), .nils, .nils], .int .i64 2, .int .i64 0, .int .i64 0]) := by kernel_rfl
theorem endR4_c (e0 e1 : Nat) : load1 (sR41 e0 e1).h 1001 2 = some (.sl 1348 0 65536 (.upto 0)) := by kernel_rfl
theorem recover_run4 {W w : World} {e0 e1 c0 g a1 c1 g2 c2 g3 c3 : Nat} (h : At W w e0 e1 c0 g a1 c1 g2 c2 g3 c3 65532) :
    Calls Tryz.prog 10 #[.pointer (some ⟨g, 0, none⟩), cfgV c0] w fun e w' => RecPost 4 g e w' ∧ Below W.heap.size W w' := by
  have hr : HR Tryz.prog (baseN W (nm g) fun _ => none) (rR c0 g a1 c1 g2 c2 g3 c3) (sR40 e0 e1).h w := by rw [beginR4_h]; exact h.hr
  refine (calls_mem (w0 := W) (xs := [.pointer (some ⟨g, 0, none⟩), cfgV c0]) (h := (sR41 e0 e1).h) fun tail => ⟨sR41 e0 e1,
    (To.start hr (dk_ok rfl rfl) (beginR4_s e0 e1)).piece (pR41 e0 e1), rfl, rfl, rfl, rfl, rfl, rfl, endR4_v e0 e1⟩).mono ?_
  rintro e w' ⟨r, x, rfl, hv, hr'⟩
  obtain ⟨lv, rfl, hl⟩ := rec_tup hv
  have hat : r.at_ 1001 = some g := hr'.names 1001 g rfl
  obtain ⟨q, hq, hvq⟩ := load1_ok hr' hat (endR4_c e0 e1)
  obtain ⟨c, m, rfl, _⟩ := hvq.sl_inv
  exact ⟨⟨_, _, _, lv, _, _, _, _, _, rfl, hq, .inl ⟨by decide, rfl, rfl, (by obtain ⟨c, m, e, _⟩ := hl.sl_inv; exact ⟨_, _, e⟩), rfl⟩⟩, hr'.below⟩
theorem beginR5_h (e0 e1 : Nat) : (sR50 e0 e1).h = recH 65531 e0 e1 := by kernel_rfl
theorem beginR5_s (e0 e1 : Nat) : callK Tryz.prog 10 [.ptr 1001 0, .agg [.sl 1000 0 2 (.exact 2), .int .i64 4, .int .i64 2, .int .i64 16, .int .i64 4]] false [] (sR50 e0 e1).h = some (sR50 e0 e1) := by kernel_rfl
theorem endR5_v (e0 e1 : Nat) : Ev.results Tryz.prog 10 (sR51 e0 e1).top.tm (sR51 e0 e1).h = some (.tup [.agg [.int .i64 384, .int .i64 0, .int .i64 0, .sl 1167 0 2 (.upto 0), .nils, .nils], .int .i64 2, .int .i64 0, .int .i64 0]) := by kernel_rfl
theorem endR5_c (e0 e1 : Nat) : load1 (sR51 e0 e1).h 1001 2 = some (.sl 1348 0 65535 (.upto 0)) := by kernel_rfl
theorem recover_run5 {W w : World} {e0 e1 c0 g a1 c1 g2 c2 g3 c3 : Nat} (h : At W w e0 e1 c0 g a1 c1 g2 c2 g3 c3 65531) :
    Calls Tryz.prog 10 #[.pointer (some ⟨g, 0, none⟩), cfgV c0] w fun e w' => RecPost 5 g e w' ∧ Below W.heap.size W w' := by
  have hr : HR Tryz.prog (baseN W (nm g) fun _ => none) (rR c0 g a1 c1 g2 c2 g3 c3) (sR50 e0 e1).h w := by rw [beginR5_h]; exact h.hr
  refine (calls_mem (w0 := W) (xs := [.pointer (some ⟨g, 0, none⟩), cfgV c0]) (h := (sR51 e0 e1).h) fun tail => ⟨sR51 e0 e1,
    (To.start hr (dk_ok rfl rfl) (beginR5_s e0 e1)).piece (pR51 e0 e1), rfl, rfl, rfl, rfl, rfl, rfl, endR5_v e0 e1⟩).mono ?_
  rintro e w' ⟨r, x, rfl, hv, hr'⟩
  obtain ⟨lv, rfl, hl⟩ := rec_tup hv
  have hat : r.at_ 1001 = some g := hr'.names 1001 g rfl
  obtain ⟨q, hq, hvq⟩ := load1_ok hr' hat (endR5_c e0 e1)
  obtain ⟨c, m, rfl, _⟩ := hvq.sl_inv
  exact ⟨⟨_, _, _, lv, _, _, _, _, _, rfl, hq, .inl ⟨by decide, rfl, rfl, (by obtain ⟨c, m, e, _⟩ := hl.sl_inv; exact ⟨_, _, e⟩), rfl⟩⟩, hr'.below⟩
theorem beginR6_h (e0 e1 : Nat) : (sR60 e0 e1).h = recH 65530 e0 e1 := by kernel_rfl
theorem beginR6_s (e0 e1 : Nat) : callK Tryz.prog 10 [.ptr 1001 0, .agg [.sl 1000 0 2 (.exact 2), .int .i64 4, .int .i64 2, .int .i64 16, .int .i64 4]] false [] (sR60 e0 e1).h = some (sR60 e0 e1) := by kernel_rfl
theorem endR6_v (e0 e1 : Nat) : Ev.results Tryz.prog 10 (sR61 e0 e1).top.tm (sR61 e0 e1).h = some (.tup [.agg [.int .i64 384, .int .i64 0, .int .i64 0, .sl 1167 0 2 (.upto 0), .nils, .nils], .int .i64 2, .int .i64 0, .int .i64 0]) := by kernel_rfl
theorem endR6_c (e0 e1 : Nat) : load1 (sR61 e0 e1).h 1001 2 = some (.sl 1348 0 65534 (.upto 0)) := by kernel_rfl
theorem recover_run6 {W w : World} {e0 e1 c0 g a1 c1 g2 c2 g3 c3 : Nat} (h : At W w e0 e1 c0 g a1 c1 g2 c2 g3 c3 65530) :
    Calls Tryz.prog 10 #[.pointer (some ⟨g, 0, none⟩), cfgV c0] w fun e w' => RecPost 6 g e w' ∧ Below W.heap.size W w' := by
  have hr : HR Tryz.prog (baseN W (nm g) fun _ => none) (rR c0 g a1 c1 g2 c2 g3 c3) (sR60 e0 e1).h w := by rw [beginR6_h]; exact h.hr
  refine (calls_mem (w0 := W) (xs := [.pointer (some ⟨g, 0, none⟩), cfgV c0]) (h := (sR61 e0 e1).h) fun tail => ⟨sR61 e0 e1,
    (To.start hr (dk_ok rfl rfl) (beginR6_s e0 e1)).piece (pR61 e0 e1), rfl, rfl, rfl, rfl, rfl, rfl, endR6_v e0 e1⟩).mono ?_
  rintro e w' ⟨r, x, rfl, hv, hr'⟩
  obtain ⟨lv, rfl, hl⟩ := rec_tup hv
  have hat : r.at_ 1001 = some g := hr'.names 1001 g rfl
  obtain ⟨q, hq, hvq⟩ := load1_ok hr' hat (endR6_c e0 e1)
  obtain ⟨c, m, rfl, _⟩ := hvq.sl_inv
  exact ⟨⟨_, _, _, lv, _, _, _, _, _, rfl, hq, .inl ⟨by decide, rfl, rfl, (by obtain ⟨c, m, e, _⟩ := hl.sl_inv; exact ⟨_, _, e⟩), rfl⟩⟩, hr'.below⟩
theorem recover_run {W w : World} {e0 e1 c0 g a1 c1 g2 c2 g3 c3 k : Nat} (hk : k < 7) (h : At W w e0 e1 c0 g a1 c1 g2 c2 g3 c3 (65536 - k)) :
    Calls Tryz.prog 10 #[.pointer (some ⟨g, 0, none⟩), cfgV c0] w fun e w' => RecPost k g e w' ∧ Below W.heap.size W w' := by
  match k, hk, h with
  | 0, _, h => exact recover_run0 h
  | 1, _, h => exact recover_run1 h
  | 2, _, h => exact recover_run2 h
  | 3, _, h => exact recover_run3 h
  | 4, _, h => exact recover_run4 h
  | 5, _, h => exact recover_run5 h
  | 6, _, h => exact recover_run6 h
  | k + 7, hk, _ => omega
end Go.Proofs.YtaokjpbgdehhiaaGreatDoor.K
