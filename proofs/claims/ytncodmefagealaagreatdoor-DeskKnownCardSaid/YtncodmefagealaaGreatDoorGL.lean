/- Contracts of functions of the program, walked, and plain laws. -/
import Derived.Test.YtncodmefagealaaGreatDoorRows
import Derived.Test.YtncodmefagealaaGreatDoorEvSt
import Derived.OpenShut
import Derived.ProofKit
import Derived.LaidMore
/- The step machine's first memory: the package-level variables that the run reads, out of what the row lists. -/
namespace Go.Proofs.YtncodmefagealaaGreatDoor.K
open Go Go.ChangeShapes Go.WideShapes Go.ChangeAt Go.WideMaps Go.WideElems Go.RowKit

theorem ints_of_array {H : Type} {enc : TypeId × Value → H} {P : Program} {w : World} {base : Nat} {spare : Nat → Bool} {held : Bool} {fuel t e n : Nat} {k : IntKind} {cs : List Value} {x : DataW H × List MemPlace} {ns : List Int}
    (ht : P.underlying t = some (.array n e)) (hu : P.underlying e = some (.int k)) (hc : P.cellsOf e = 1) (hct : P.cellsOf t = n) (h : DataW.trod enc P w base spare held fuel t cs = some x)
    (hx : x.1 = .agg (ns.map fun n => .lit (.int k n))) : cs = ns.map (.int k) := by
  obtain ⟨xs, m, _, rfl, hl, hxl, hel⟩ := DataW.trod_array ht h
  have hxs : xs.map (·.1) = ns.map fun n => .lit (.int k n) := by
    simpa using hx
  have hlen : ns.length = n := by
    have := congrArg List.length hxs
    simp at this; omega
  apply List.ext_getElem?
  intro i
  by_cases hi : i < n
  · have h1 := hel i hi
    rw [hc, Nat.mul_one, List.drop_eq_getElem_cons (by omega), List.take_succ_cons, List.take_zero] at h1
    obtain ⟨y, hy⟩ : ∃ y, xs[i]? = some y := ⟨_, List.getElem?_eq_getElem (by omega)⟩
    rw [hy] at h1
    obtain ⟨z, e2, e3, _⟩ := DataW.trod_int hu h1
    simp only [List.cons.injEq, and_true] at e2
    have h2 : (xs.map (·.1))[i]? = some (.lit (.int k z)) := by rw [List.getElem?_map, hy, e3]; rfl
    rw [hxs, List.getElem?_map] at h2
    cases hn : ns[i]? with
    | none => rw [hn] at h2; cases h2
    | some u =>
      rw [hn] at h2
      simp only [Option.map_some, Option.some.injEq, DataW.lit.injEq, Lit.int.injEq, true_and] at h2
      rw [List.getElem?_eq_getElem (by omega), e2, List.getElem?_map, hn, h2]; rfl
  · rw [List.getElem?_eq_none (by omega), List.getElem?_eq_none (by simp; omega)]

def tabN : List Int := [0, 274646895, 549293790, 820201905, 1098587580, 1361435347, 1640403810, 1905808397, 2197175160, 2460548119, 2722870694, 2987750089, 3280807620, 3553878443, 3811616794, 4084100981]
def powN : List Int := [1, 10, 100, 1000, 10000, 100000, 1000000, 10000000, 100000000, 1000000000, 10000000000, 100000000000, 1000000000000, 10000000000000, 100000000000000, 1000000000000000, 10000000000000000, 100000000000000000, 1000000000000000000, 10000000000000000000]
theorem tabNamed : Tryz.prog.globalNamed "larder/frame.table" = some 25 := by kernel_rfl
theorem tabType : (Tryz.prog.globals[25]?).map (·.type) = some 511 := by kernel_rfl
theorem cellsTab : Tryz.prog.cellsOf 511 = 16 := by kernel_rfl
theorem cellsU : Tryz.prog.cellsOf 214 = 1 := by kernel_rfl
theorem powNamed : Tryz.prog.globalNamed "internal/strconv.uint64pow10" = some 19 := by kernel_rfl
theorem powType : (Tryz.prog.globals[19]?).map (·.type) = some 477 := by kernel_rfl
theorem cellsPow : Tryz.prog.cellsOf 477 = 20 := by kernel_rfl
theorem cellsU64 : Tryz.prog.cellsOf 155 = 1 := by kernel_rfl
theorem powUnd : Tryz.prog.underlying 477 = some (.array 20 155) := by kernel_rfl
theorem u64Type : Tryz.prog.underlying 155 = some (.int .u64) := by kernel_rfl
theorem flNamed : Tryz.prog.globalNamed "larder/disk.flush" = some 26 := by kernel_rfl
theorem flType : (Tryz.prog.globals[26]?).map (·.type) = some 455 := by kernel_rfl
theorem cellsFl : Tryz.prog.cellsOf 455 = 129 := by kernel_rfl
theorem cellsBs : Tryz.prog.cellsOf 453 = 128 := by kernel_rfl
theorem cellsB : Tryz.prog.cellsOf 5 = 1 := by kernel_rfl
theorem cellsI : Tryz.prog.cellsOf 3 = 1 := by kernel_rfl
theorem bsType : Tryz.prog.underlying 453 = some (.array 128 5) := by kernel_rfl
theorem iType : Tryz.prog.underlying 3 = some (.int .i64) := by kernel_rfl
theorem bType : Tryz.prog.underlying 5 = some (.int .u8) := by kernel_rfl
theorem uType : Tryz.prog.underlying 214 = some (.int .u32) := by kernel_rfl
theorem tabUnd : Tryz.prog.underlying 511 = some (.array 16 214) := by kernel_rfl

theorem at_var {P : Program} {w : World} {n : String} {g : Nat} {cs : Array Value} (hg : P.globalNamed n = some g) (h : w.var? P n = some cs) : ∃ t fr, w.heap[g]? = some (.cells cs t fr) := by
  unfold World.var? at h
  rw [hg] at h
  simp only [Option.bind_some] at h
  split at h
  · rename_i cs' t fr hh
    cases h; exact ⟨t, fr, hh⟩
  · cases h
theorem laid_mem {P : Program} {w : World} : ∀ {l : List (String × DataW Unit)} {ps : List MemPlace}, DataW.LaidVars P w l ps → ∀ {n : String} {d : DataW Unit}, (n, d) ∈ l →
    ∃ g t cs fuel p, P.globalNamed n = some g ∧ (P.globals[g]?).map (·.type) = some t ∧ w.var? P n = some cs ∧ DataW.trod (fun _ => ()) P w 0 (fun _ => true) false fuel t cs.toList = some (d, p) ∧ ∀ x ∈ MemPlace.row ⟨g, 0, none⟩ cs.size ++ p, x ∈ ps
  | [], _, _, _, _, hm => by cases hm
  | (n0, d0) :: l, ps, ⟨g, t, cs, fuel, p, q, hg, ht, hv, hd, hr, hps⟩, n, d, hm => by
    rcases List.mem_cons.1 hm with h | h
    · cases h
      exact ⟨g, t, cs, fuel, p, hg, ht, hv, hd, fun x hx => by rw [hps]; exact List.mem_append_left _ hx⟩
    · obtain ⟨g', t', cs', fuel', p', h1, h2, h3, h4, h5⟩ := laid_mem hr h
      exact ⟨g', t', cs', fuel', p', h1, h2, h3, h4, fun x hx => by rw [hps]; exact List.mem_append_right _ (h5 x hx)⟩
def plainL : List (String × DataW Unit) := Rows.deskKnownRow.laid.filter fun x => x.2.handleName?.isNone
theorem plain_of {W : World} (h : laidMetH Tryz.prog Rows.deskKnownRow.laid W) : laidMet Tryz.prog plainL W ∧ handlesMet Tryz.prog [("errors.errorType", Rows.laid_errors_errorType)] W := h

/-- What is said of one type: which are named as the errors' own string, which point to it. -/
def nmOk (t : Nat) (d : TypeInfo) : Bool :=
  match d.desc with
  | .named n _ => !(n == "*errors.errorString") && (!(n == "errors.errorString") || Nat.beq t 684)
  | .pointer e => !(Nat.beq e 684) || Nat.beq t 682
  | .bool | .int _ | .float _ | .string => !(d.str == "*errors.errorString") && !(d.str == "errors.errorString")
  | _ => true
theorem nmAll : ((List.range Tryz.prog.types.size).all fun t => match Tryz.prog.info? t with | some d => nmOk t d | none => true) = true := by kernel_rfl
theorem nm_of {t : Nat} {d : TypeInfo} (hl : t < Tryz.prog.types.size) (h : Tryz.prog.info? t = some d) : nmOk t d = true := by
  have := List.all_eq_true.1 nmAll t (List.mem_range.2 hl)
  rw [h] at this
  exact this
theorem star_ne {a : String} (h : "*" ++ a = "errors.errorString") : False := by
  have := congrArg String.toList h
  rw [String.toList_append] at this
  have h2 := congrArg List.head? this
  revert h2
  rw [show ("*" : String).toList = ['*'] from by decide]
  simp
theorem name_es2 {u : Nat} (d : Nat) (h : Tryz.prog.typeName? d u = some "errors.errorString") : u = 684 := by
  cases d with
  | zero => cases h
  | succ d =>
  unfold Program.typeName? at h
  split at h
  · rename_i i hi
    by_cases hlt : u < Tryz.prog.types.size
    · have hk := nm_of hlt hi
      unfold nmOk at hk
      split at h
      · rename_i n v hd
        rw [hd] at hk
        split at h
        · have h' := Option.some.inj h
          simp only [h', Bool.and_eq_true, Bool.or_eq_true] at hk
          rcases hk.2 with h1 | h1
          · simp at h1
          · exact Nat.eq_of_beq_eq_true h1
        · cases h
      · obtain ⟨nm, _, he⟩ := Option.map_eq_some_iff.1 h
        exact (star_ne he).elim
      all_goals first
        | (cases h; done)
        | (rename_i hd
           rw [hd] at hk
           split at h
           · cases h
           · have h' := Option.some.inj h
             simp [h'] at hk)
    · have hb := Tables.info?_beyond hlt hi
      cases hd : i.desc <;> simp only [hd, TypeDesc.tableOnly] at h hb <;> try cases hb
      all_goals try cases h
      obtain ⟨nm, _, he⟩ := Option.map_eq_some_iff.1 h
      exact (star_ne he).elim
  · cases h
theorem name_lt {u : Nat} (hlt : u < Tryz.prog.types.size) (h : Tryz.prog.typeName? 3 u = some "*errors.errorString") : u = 682 := by
  unfold Program.typeName? at h
  split at h
  · rename_i i hi
    have hk := nm_of hlt hi
    unfold nmOk at hk
    split at h
    · rename_i n v hd
      rw [hd] at hk
      split at h
      · have h' := Option.some.inj h
        simp [h'] at hk
      · cases h
    · rename_i e hd
      rw [hd] at hk
      obtain ⟨nm, hn, he⟩ := Option.map_eq_some_iff.1 h
      have hn2 : nm = "errors.errorString" := star_append_inj he
      subst hn2
      obtain rfl := name_es2 _ hn
      simp only [Bool.or_eq_true] at hk
      rcases hk with h1 | h1
      · simp at h1
      · exact Nat.eq_of_beq_eq_true h1
    all_goals first
      | (cases h; done)
      | (rename_i hd
         rw [hd] at hk
         split at h
         · cases h
         · have h' := Option.some.inj h
           simp [h'] at hk)
  · cases h
theorem starEs : "*" ++ "errors.errorString" = "*errors.errorString" := by decide
theorem esNamed : (match (Tryz.prog.info? 684).map (·.desc) with | some (TypeDesc.named _ _) => true | _ => false) = true := by kernel_rfl
theorem name_es (u : Nat) (h : Tryz.prog.typeName? 3 u = some "*errors.errorString") : u = 682 :=
  typeName_ptr_named (P := Tryz.prog) (nm := "errors.errorString") (tp := 682)
    (List.all_eq_true.2 fun u hu => by
      rw [starEs]
      by_cases hn : Tryz.prog.typeName? 3 u = some "*errors.errorString"
      · rw [name_lt (List.mem_range.1 hu) hn]; simp
      · simp [hn])
    (List.all_eq_true.2 fun u _ => by
      by_cases hn : Tryz.prog.typeName? 2 u = some "errors.errorString"
      · obtain rfl := name_es2 _ hn
        have e := esNamed
        revert e
        generalize (Tryz.prog.info? 684).map (·.desc) = x
        intro e
        cases x with
        | none => simp at e
        | some d => cases d <;> simp_all
      · simp [hn])
    (by decide) u (by rw [starEs]; exact h)
theorem errUnd : ∃ m, Tryz.prog.underlying 31 = some (.interface m) := ⟨_, Tryz.underlying31⟩
theorem esUnd : Tryz.prog.underlying 682 = some (.pointer 684) := by kernel_rfl
theorem cellsEs : Tryz.prog.cellsOf 684 = 1 := by kernel_rfl
theorem cellsStr : Tryz.prog.cellsOf 9 = 1 := by kernel_rfl
theorem esStruct : ∃ f, Tryz.prog.underlying 684 = some (.struct #[f]) ∧ f.type = 9 ∧ f.offset = 0 := ⟨_, Tryz.underlying684, rfl, rfl⟩
theorem strUnd : Tryz.prog.underlying 9 = some .string := Tryz.underlying9
set_option maxRecDepth 100000 in
/-- One listed error: its cell. -/
theorem err_cell {W : World} (h : laidMet Tryz.prog plainL W) {n : String} {g : Nat} {l : List UInt8} (hm : (n, (.iface "*errors.errorString" (.ptr (.agg [.lit (.string l)])) : DataW Unit)) ∈ plainL)
    (hg : Tryz.prog.globalNamed n = some g) (ht : (Tryz.prog.globals[g]?).map (·.type) = some 31) :
    ∃ c o cs t fr, W.heap[g]? = some (.cells cs t fr) ∧ cs.toList = [.iface 682 (.pointer (some ⟨c, o, none⟩))] := by
  obtain ⟨ps, hv, hnd, hwide⟩ := h
  obtain ⟨g', t', cs, fuel, p, h1, h2, h3, h4, h5⟩ := laid_mem hv hm
  obtain rfl := Option.some.inj (hg.symm.trans h1)
  obtain rfl := Option.some.inj (ht.symm.trans h2)
  obtain ⟨m, hu⟩ := errUnd
  obtain ⟨f, hs, hf1, hf2⟩ := esStruct
  obtain ⟨t, fr, hh⟩ := at_var hg h3
  obtain ⟨a, s, hcs, hcell, _⟩ := errorString_of_trod hu name_es esUnd hs hf1 hf2 strUnd cellsEs cellsStr h4 (fun u v hc => by
    have hcell : W.cell? ⟨g, 0, none⟩ = some (.iface u v) := by
      rw [World.var?_cell hg h3 0, ← Array.getElem?_toList, hc]; rfl
    have hsz : cs.size = 1 := by rw [← Array.length_toList, hc]; rfl
    refine (hwide g 0 (h5 _ ?_)).2 _ _ hcell
    rw [hsz]
    exact List.mem_append_left _ (by simp [MemPlace.row]))
  have hsp : a.spot = none := by
    unfold World.cell? at hcell
    split at hcell
    · split at hcell
      · cases hcell
      · rename_i hs'; simpa using hs'
    · cases hcell
  obtain ⟨c, o, sp⟩ := a
  have hs2 : sp = none := hsp
  subst hs2
  exact ⟨c, o, cs, t, fr, hh, hcs⟩
end Go.Proofs.YtncodmefagealaaGreatDoor.K
/- The step machine's first memory: the cells, the names, the memory itself. -/
namespace Go.Proofs.YtncodmefagealaaGreatDoor.K
open Go Go.ChangeShapes Go.WideShapes Go.ChangeAt Go.WideMaps Go.WideElems Go.RowKit

theorem nWords : Tryz.prog.globalNamed "larder/desk.ErrWords" = some 0 := by kernel_rfl
theorem tWords : (Tryz.prog.globals[0]?).map (·.type) = some 31 := by kernel_rfl
theorem nDone : Tryz.prog.globalNamed "larder/sheet.ErrDone" = some 6 := by kernel_rfl
theorem tDone : (Tryz.prog.globals[6]?).map (·.type) = some 31 := by kernel_rfl
theorem nNum : Tryz.prog.globalNamed "larder/desk.ErrNumber" = some 13 := by kernel_rfl
theorem tNum : (Tryz.prog.globals[13]?).map (·.type) = some 31 := by kernel_rfl
theorem nSyn : Tryz.prog.globalNamed "strconv.ErrSyntax" = some 32 := by kernel_rfl
theorem tSyn : (Tryz.prog.globals[32]?).map (·.type) = some 31 := by kernel_rfl

theorem laid_tab {W : World} (h : laidMet Tryz.prog plainL W) : ∃ cs t fr, W.heap[25]? = some (.cells cs t fr) ∧ cs.toList = tabN.map (.int .u32) := by
  obtain ⟨ps, hv, _, _⟩ := h
  obtain ⟨g, t, cs, fuel, p, hg, ht, hvar, hd, _⟩ := laid_mem hv (List.mem_of_getElem? (i := 1) (a := ("larder/frame.table", Rows.laid_larder_frame_table)) rfl)
  obtain rfl := Option.some.inj (tabNamed.symm.trans hg)
  obtain rfl := Option.some.inj (tabType.symm.trans ht)
  obtain ⟨t, fr, hh⟩ := at_var tabNamed hvar
  exact ⟨cs, t, fr, hh, ints_of_array tabUnd uType cellsU cellsTab hd rfl⟩
theorem laid_pow {W : World} (h : laidMet Tryz.prog plainL W) : ∃ cs t fr, W.heap[19]? = some (.cells cs t fr) ∧ cs.toList = powN.map (.int .u64) := by
  obtain ⟨ps, hv, _, _⟩ := h
  obtain ⟨g, t, cs, fuel, p, hg, ht, hvar, hd, _⟩ := laid_mem hv (List.mem_of_getElem? (i := 11) (a := ("internal/strconv.uint64pow10", Rows.laid_internal_strconv_uint64pow10)) rfl)
  obtain rfl := Option.some.inj (powNamed.symm.trans hg)
  obtain rfl := Option.some.inj (powType.symm.trans ht)
  obtain ⟨t, fr, hh⟩ := at_var powNamed hvar
  exact ⟨cs, t, fr, hh, ints_of_array powUnd u64Type cellsU64 cellsPow hd rfl⟩
theorem laid_fl {W : World} (h : laidMet Tryz.prog plainL W) : ∃ cs t fr, W.heap[26]? = some (.cells cs t fr) ∧ cs.toList = .int .i64 (-1) :: (List.replicate 128 (0 : Int)).map (.int .u8) := by
  obtain ⟨ps, hv, _, _⟩ := h
  obtain ⟨g, t, cs, fuel, p, hg, ht, hvar, hd, _⟩ := laid_mem hv (List.mem_of_getElem? (i := 2) (a := ("larder/disk.flush", Rows.laid_larder_disk_flush)) rfl)
  obtain rfl := Option.some.inj (flNamed.symm.trans hg)
  obtain rfl := Option.some.inj (flType.symm.trans ht)
  obtain ⟨t, fr, hh⟩ := at_var flNamed hvar
  refine ⟨cs, t, fr, hh, ?_⟩
  obtain ⟨xs, m, _, hx, hl, hxl, hel⟩ := DataW.trod_struct Tryz.underlying455 hd
  have h0 : DataW.trod (fun _ => ()) Tryz.prog W 0 (fun _ => true) false m 3 ((cs.toList.drop 0).take (Tryz.prog.cellsOf 3)) = xs[0]? := hel 0 _ rfl
  have h1 : DataW.trod (fun _ => ()) Tryz.prog W 0 (fun _ => true) false m 453 ((cs.toList.drop 1).take (Tryz.prog.cellsOf 453)) = xs[1]? := hel 1 _ rfl
  rw [cellsI] at h0
  rw [cellsBs] at h1
  rw [cellsFl] at hl
  have hx2 : xs.map (·.1) = [.lit (.int .i64 (-1)), .agg ((List.replicate 128 (0 : Int)).map fun n => .lit (.int .u8 n))] := by
    have := (Prod.mk.inj hx).1
    unfold Rows.laid_larder_disk_flush at this
    injection this with this
    exact this.symm
  obtain ⟨y0, hy0⟩ : ∃ y, xs[0]? = some y := ⟨_, List.getElem?_eq_getElem (by rw [hxl]; decide)⟩
  obtain ⟨y1, hy1⟩ : ∃ y, xs[1]? = some y := ⟨_, List.getElem?_eq_getElem (by rw [hxl]; decide)⟩
  have e0 : (xs.map (·.1))[0]? = some y0.1 := by rw [List.getElem?_map, hy0]; rfl
  have e1 : (xs.map (·.1))[1]? = some y1.1 := by rw [List.getElem?_map, hy1]; rfl
  rw [hx2] at e0 e1
  rw [hy0] at h0
  rw [hy1] at h1
  obtain ⟨z, e2, e3, _⟩ := DataW.trod_int iType h0
  have hb := ints_of_array bsType bType cellsB cellsBs h1 (ns := List.replicate 128 0) (Option.some.inj e1).symm
  have hz : z = -1 := by
    rw [e3] at e0
    have e0' := (Option.some.inj e0).symm
    simpa using e0'
  subst hz
  have hsp : cs.toList = cs.toList.take 1 ++ cs.toList.drop 1 := (List.take_append_drop 1 _).symm
  have hdr : (cs.toList.drop 1).take 128 = cs.toList.drop 1 := List.take_of_length_le (by rw [List.length_drop, hl]; decide)
  rw [hsp]
  rw [hdr] at hb
  rw [hb]
  have e2' : cs.toList.take 1 = [.int .i64 (-1)] := e2
  rw [e2']; rfl
theorem eTypeNamed : Tryz.prog.globalNamed "errors.errorType" = some 1 := by kernel_rfl
theorem eTypeRt : (Tryz.prog.cutTypes.find? (·.1 == "internal/reflectlite.rtype")).map (·.2) = some 173 := by kernel_rfl
theorem eTypeRow : ((List.range 763).filter fun t => Tryz.prog.rowNamed t [101, 114, 114, 111, 114]) = [31] := by kernel_rfl
theorem typesSize : Tryz.prog.types.size = 763 := by kernel_rfl
theorem eHandle : typeHandle Tryz.prog 31 = .pointer (some ⟨37, 31, none⟩) := by kernel_rfl
theorem handle_at {W : World} (h : handlesMet Tryz.prog [("errors.errorType", Rows.laid_errors_errorType)] W) : W.cell? ⟨1, 0, none⟩ = some (.iface 173 (.agg #[.pointer (some ⟨37, 31, none⟩)])) := by
  obtain ⟨name, u, ty, e1, e2, e3, e4, e5⟩ := h _ (List.mem_singleton.2 rfl)
  have en : name = [101, 114, 114, 111, 114] := (Option.some.inj e1).symm
  subst en
  obtain rfl := Option.some.inj (eTypeRt.symm.trans e2)
  have hm : ty ∈ (List.range 763).filter fun t => Tryz.prog.rowNamed t [101, 114, 114, 111, 114] := List.mem_filter.2 ⟨List.mem_range.2 (by rw [← typesSize]; exact e3), e4⟩
  rw [eTypeRow] at hm
  obtain rfl := List.mem_singleton.1 hm
  rw [eHandle] at e5
  simpa using World.var?_cell eTypeNamed e5 0

open Go.Ev
/-- The names of the blocks that stand at the beginning; four pointers are known by name alone. -/
def r0 (F : Nat → Nat × Nat) : Ren := { at_ := fun b => if b < 500 then some b else if 1000 ≤ b ∧ b < 1004 then some (F b).1 else none, cap := fun b => (F b).2, sh := fun _ => 0 }
theorem vrs_ints {r : Ren} (k : IntKind) : ∀ (l : List Int), VRs r (l.map (V.int k)) (l.map (Value.int k))
  | [] => .nil
  | n :: l => .cons _ _ _ _ (.int k n) (vrs_ints k l)
theorem cells_ok {P : Program} {F : Nat → Nat × Nat} {b elem : Nat} {vs : List V} {cs : Array Value} {fz : Nat × Nat} (hv : VRs (r0 F) vs cs.toList) :
    OR P (r0 F) (some (.cells cs elem fz)) b (.cells elem false false vs.length [] (rowT vs)) := by
  have hlen : cs.size = vs.length := by have := hv.length; simp at this; omega
  refine ⟨cs, fz, rfl, fun h => (by cases h), fun i v hi => ?_, ?_, fun h => (by cases h), fun _ => ⟨rfl, hlen⟩⟩
  · have e : rowT vs = sets vs T.e 0 := by unfold rowT; rw [setsK_eq]; rfl
    rw [e] at hi
    obtain ⟨x, hx, hr⟩ := hv.get (cellAt_new vs hi)
    exact ⟨x, by simpa [r0] using hx, hr⟩
  · simp [r0, hlen]
theorem far_ok {F : Nat → Nat × Nat} {b c o t : Nat} (h : 1000 ≤ b ∧ b < 1004) (hF : F b = (c, o)) : VRs (r0 F) [.iface t (.far b)] [.iface t (.pointer (some ⟨c, o, none⟩))] :=
  .cons _ _ _ _ (.iface _ _ _ (.far _ _ _ (by simp only [r0]; rw [if_neg (by omega), if_pos h, hF]) (by simp only [r0]; rw [hF]))) .nil
end Go.Proofs.YtncodmefagealaaGreatDoor.K
