/- Contracts of functions of the program, walked, and plain laws. -/
import Derived.Test.YtnaapkoladiomaaGreatDoorRows
import Derived.Test.YtnaapkoladiomaaGreatDoorBase
import Derived.ProofKit
import Derived.OpenShut
import Derived.SliceStrings
import Derived.SizedLaws
import Derived.Test.YtnaapkoladiomaaGreatDoorCrc
/- A Config that came in, written out: its codes, read; how many there may be. -/
namespace Go.Proofs.YtnaapkoladiomaaGreatDoor.CRow
open Go Go.ChangeShapes Go.WideShapes Go.ChangeAt Go.WideMaps Go.WideElems Go.RowKit

theorem cellsCfg : Tryz.prog.cellsOf 24 = 5 := by kernel_rfl
theorem cellsI : Tryz.prog.cellsOf 3 = 1 := by kernel_rfl
theorem cellsS : Tryz.prog.cellsOf 9 = 1 := by kernel_rfl
theorem cellsTexts : Tryz.prog.cellsOf 22 = 1 := by kernel_rfl
theorem bytesS : Tryz.prog.bytesOf 9 = 16 := by kernel_rfl
theorem array5 {α : Type} {cs : Array α} (h : cs.size = 5) : ∃ c0 c1 c2 c3 c4, cs = #[c0, c1, c2, c3, c4] := by
  obtain ⟨l⟩ := cs
  match l, h with
  | [c0, c1, c2, c3, c4], _ => exact ⟨c0, c1, c2, c3, c4, rfl⟩
theorem list5 {α : Type} {l : List α} (h : l.length = 5) : ∃ c0 c1 c2 c3 c4, l = [c0, c1, c2, c3, c4] := by
  match l, h with
  | [c0, c1, c2, c3, c4], _ => exact ⟨c0, c1, c2, c3, c4, rfl⟩

set_option maxRecDepth 100000 in
theorem open_config {H : Type} {enc : TypeId × Value → H} {w : World} {r : Reach} {b0 base : Nat} {held : Bool} {v : Value} {d : DataW H} {p : List MemPlace} {ts : List TypeId} {ds : List (DataW H)} {j : Nat}
    (hv : Value.okWide Tryz.prog w r b0 24 v) (h : DataW.Trod enc Tryz.prog w base (fun _ => true) held 24 v d p)
    (hsz : (DataW.weightsEach Tryz.prog ts ds).all (· ≤ reachBytes) = true) (ht : ts[j]? = some 24) (hd : ds[j]? = some d) :
    ∃ A n cp st hd se sl ss, v = .agg #[.slice A n cp, .int .i64 st, .int .i64 hd, .int .i64 se, .int .i64 sl] ∧ ss.length = n ∧ n * 16 ≤ 140737488351232 ∧ (∀ s ∈ ss, s.size ≤ 9223372036854775807) ∧ B.Rd w 1 A n (B.strs ss) := by
  obtain ⟨cs, rfl, hsz2⟩ := okWide_struct Tryz.underlying24 hv
  obtain ⟨c0, c1, c2, c3, c4, rfl⟩ := array5 (hsz2.trans cellsCfg)
  obtain ⟨fuel, hf⟩ := h
  obtain ⟨xs, m, _, hx0, _, hlen, hx⟩ := DataW.trod_struct Tryz.underlying24 hf
  obtain ⟨y0, y1, y2, y3, y4, rfl⟩ := list5 hlen
  have h0 := hx 0 _ rfl
  have h1 := hx 1 _ rfl
  have h2 := hx 2 _ rfl
  have h3 := hx 3 _ rfl
  have h4 := hx 4 _ rfl
  simp [Value.cells, cellsI, cellsTexts] at h0 h1 h2 h3 h4
  obtain ⟨a, e1, _, _⟩ := DataW.trod_int Tryz.underlying3 h1
  obtain ⟨b, e2, _, _⟩ := DataW.trod_int Tryz.underlying3 h2
  obtain ⟨c, e3, _, _⟩ := DataW.trod_int Tryz.underlying3 h3
  obtain ⟨f, e4, _, _⟩ := DataW.trod_int Tryz.underlying3 h4
  simp only [List.cons.injEq, and_true] at e1 e2 e3 e4
  subst e1 e2 e3 e4
  have hw : ∀ k ∈ DataW.weights Tryz.prog 22 y0.1, k ≤ reachBytes := fun k hk => by
    have hdd : d = .agg [y0.1, y1.1, y2.1, y3.1, y4.1] := by simpa using (Prod.mk.inj hx0).1
    have hmem : k ∈ DataW.weights Tryz.prog 24 d := by
      rw [hdd]
      simp [DataW.weights, DataW.weightsEach, Tryz.underlying24]
      exact .inl hk
    have := List.all_eq_true.1 hsz k (DataW.weights_mem_each ht hd k hmem)
    simpa using this
  rcases open_strings Tryz.underlying22 Tryz.underlying9 cellsS h0 with ⟨e0, _⟩ | ⟨ad, len, cap, ss, e0, _, hle, _, hssl, hy0, hcell, hz⟩
  · simp at e0
    subst e0
    exact ⟨none, 0, 0, a, b, c, f, [], rfl, rfl, by omega, by simp, B.Rd.none_ _ _⟩
  · simp at e0
    subst e0
    have hssl' : ss.length = cap := by simpa using hssl
    have hbnd : cap * 16 ≤ 140737488351232 := by
      have := hw (((ChangeShapes.strs (H := H) (ss.take len)).length + (ChangeShapes.strs (H := H) (ss.drop len)).length) * Tryz.prog.bytesOf 9) (by
        rw [hy0]
        simp [DataW.weights, Tryz.underlying22])
      rw [bytesS] at this
      have e : (ChangeShapes.strs (H := H) (ss.take len)).length + (ChangeShapes.strs (H := H) (ss.drop len)).length = cap := by
        simp [ChangeShapes.strs]; omega
      rw [e] at this
      exact this
    refine ⟨some ad, len, cap, a, b, c, f, ss.take len, rfl, by simp; omega, by omega, fun s hs => ?_, by simp; omega, fun _ => ⟨ad, rfl, fun j u hu => ?_⟩⟩
    · have := hz s (List.mem_of_mem_take hs)
      simpa [maxLen] using this
    · rw [B.strs_get, List.getElem?_take] at hu
      split at hu
      · rename_i hj
        have hjs : j < ss.length := by omega
        rw [hcell j hjs]
        simp [List.getElem?_eq_getElem hjs] at hu
        rw [← hu]
        simp [List.getD, List.getElem?_eq_getElem hjs]
      · simp at hu
end Go.Proofs.YtnaapkoladiomaaGreatDoor.CRow
/- The sum's table in memory, out of what the row lists. -/
namespace Go.Proofs.YtnaapkoladiomaaGreatDoor.CRow
open Go Go.ChangeShapes Go.WideShapes Go.ChangeAt Go.WideMaps Go.WideElems Go.RowKit

theorem tabNamed : Tryz.prog.globalNamed "larder/frame.table" = some 0 := by kernel_rfl
theorem tabType : (Tryz.prog.globals[0]?).map (·.type) = some 166 := by kernel_rfl
theorem cellsTab : Tryz.prog.cellsOf 166 = 16 := by kernel_rfl
theorem cellsU : Tryz.prog.cellsOf 73 = 1 := by kernel_rfl
theorem tabAt {W : World} (h : laidMetH Tryz.prog [("larder/frame.table", Rows.laid_larder_frame_table)] W) : B.TabAt W := by
  have h' : laidMet Tryz.prog [("larder/frame.table", Rows.laid_larder_frame_table)] W := h
  obtain ⟨ps, ⟨g, t, cs, fuel, p, q, hg, ht, hvar, hd, _, _⟩, _⟩ := h'
  obtain rfl := Option.some.inj (tabNamed.symm.trans hg)
  obtain rfl := Option.some.inj (tabType.symm.trans ht)
  obtain ⟨xs, m, _, hx, hl, hxl, hel⟩ := DataW.trod_array Tryz.underlying166 hd
  intro i hi
  have h1 := hel i hi
  rw [cellsU] at h1
  have hcs : cs.toList.length = 16 := hl.trans cellsTab
  obtain ⟨c, hc⟩ : ∃ c, cs.toList[i]? = some c := ⟨_, List.getElem?_eq_getElem (by omega)⟩
  obtain ⟨y, hy⟩ : ∃ y, xs[i]? = some y := ⟨_, List.getElem?_eq_getElem (by omega)⟩
  have e1 : ((cs.toList.drop (i * 1)).take 1) = [c] := by
    rw [Nat.mul_one, List.drop_eq_getElem_cons (by omega)]
    have := List.getElem?_eq_getElem (l := cs.toList) (i := i) (by omega)
    rw [hc] at this
    simp only [List.take_succ_cons, List.take_zero]
    rw [← Option.some.inj this]
  rw [e1, hy] at h1
  obtain ⟨z, e2, e3, _⟩ := DataW.trod_int Tryz.underlying73 h1
  simp only [List.cons.injEq, and_true] at e2
  subst e2
  have hz : (Rows.laid_larder_frame_table (H := Unit)) = .agg (xs.map (·.1)) := (Prod.mk.inj hx).1
  have hz2 : (xs.map (·.1))[i]? = some (.lit (.int .u32 (B.tab i : Nat))) := by
    have e4 : xs.map (·.1) = [.lit (.int .u32 0), .lit (.int .u32 274646895), .lit (.int .u32 549293790), .lit (.int .u32 820201905), .lit (.int .u32 1098587580), .lit (.int .u32 1361435347), .lit (.int .u32 1640403810), .lit (.int .u32 1905808397), .lit (.int .u32 2197175160), .lit (.int .u32 2460548119), .lit (.int .u32 2722870694), .lit (.int .u32 2987750089), .lit (.int .u32 3280807620), .lit (.int .u32 3553878443), .lit (.int .u32 3811616794), .lit (.int .u32 4084100981)] := by
      injection hz with hz
      exact hz.symm
    rw [e4]
    match i, hi with
    | 0, _ | 1, _ | 2, _ | 3, _ | 4, _ | 5, _ | 6, _ | 7, _ | 8, _ | 9, _ | 10, _ | 11, _ | 12, _ | 13, _ | 14, _ | 15, _ => rfl
    | i + 16, hi => omega
  rw [List.getElem?_map, hy] at hz2
  have hz3 : y.1 = .lit (.int .u32 (B.tab i : Nat)) := Option.some.inj hz2
  rw [e3] at hz3
  simp only [DataW.lit.injEq, Lit.int.injEq, true_and] at hz3
  subst hz3
  unfold World.var? at hvar
  rw [tabNamed] at hvar
  simp only [Option.bind_some] at hvar
  split at hvar
  · rename_i cs' t' fr hh
    obtain rfl := Option.some.inj hvar
    rw [cell_of_row W 0 i cs' t' fr hh]
    rw [← hc]; simp
  · cases hvar
end Go.Proofs.YtnaapkoladiomaaGreatDoor.CRow
