/- The step machine: its tries, what its values stand for. -/
import Derived.Test.YthadnmpneonmfaaGreatDoorEvD
namespace Go.Ev
open Go

noncomputable section
section tries
variable {α : Type}
def T.set (t : T α) (i : Nat) (x : α) : T α := T.setK x t i id

theorem natK_eq {β : Type} (n : Nat) (k : Nat → β) : natK n k = k n := by cases n <;> rfl
theorem intK_eq {β : Type} (i : Int) (k : Int → β) : intK i k = k i := by cases i <;> simp [intK, natK_eq]

theorem T.get_e (i : Nat) : (T.e : T α).get i = none := rfl
theorem T.get_n (v : Option α) (l r : T α) (i : Nat) : (T.n v l r).get i = match i with
    | 0 => v
    | i' + 1 => match Nat.beq (Nat.mod i' 2) 0 with
      | true => l.get (Nat.div i' 2)
      | false => r.get (Nat.div i' 2) := by
  cases i with
  | zero => rfl
  | succ i' =>
    show Bool.rec (motive := fun _ => Option α) (r.get (Nat.div i' 2)) (l.get (Nat.div i' 2)) (Nat.beq (Nat.mod i' 2) 0) = _
    dsimp only
    cases Nat.beq (Nat.mod i' 2) 0 <;> rfl
theorem T.singleK_succ {β : Type} (x : α) (f i : Nat) (k : T α → β) : T.singleK x (f + 1) i k = match i with
    | 0 => k (.n (some x) .e .e)
    | i' + 1 => match Nat.beq (Nat.mod i' 2) 0 with
      | true => T.singleK x f (Nat.div i' 2) (fun t => k (.n none t .e))
      | false => T.singleK x f (Nat.div i' 2) (fun t => k (.n none .e t)) := by
  cases i with
  | zero => rfl
  | succ i' =>
    show Bool.rec (motive := fun _ => β) (T.singleK x f (Nat.div i' 2) (fun t => k (.n none .e t))) (T.singleK x f (Nat.div i' 2) (fun t => k (.n none t .e))) (Nat.beq (Nat.mod i' 2) 0) = _
    dsimp only
    cases Nat.beq (Nat.mod i' 2) 0 <;> rfl
theorem T.setK_n {β : Type} (x : α) (v : Option α) (l r : T α) (i : Nat) (k : T α → β) : T.setK x (.n v l r) i k = match i with
    | 0 => k (.n (some x) l r)
    | i' + 1 => match Nat.beq (Nat.mod i' 2) 0 with
      | true => T.setK x l (Nat.div i' 2) (fun t => k (.n v t r))
      | false => T.setK x r (Nat.div i' 2) (fun t => k (.n v l t)) := by
  cases i with
  | zero => rfl
  | succ i' =>
    show Bool.rec (motive := fun _ => β) (T.setK x r (Nat.div i' 2) (fun t => k (.n v l t))) (T.setK x l (Nat.div i' 2) (fun t => k (.n v t r))) (Nat.beq (Nat.mod i' 2) 0) = _
    dsimp only
    cases Nat.beq (Nat.mod i' 2) 0 <;> rfl
theorem T.singleK_eq {β : Type} (x : α) : ∀ (f i : Nat) (k : T α → β), T.singleK x f i k = k (T.singleK x f i id)
  | 0, _, _ => rfl
  | f + 1, i, k => by
    rw [T.singleK_succ, T.singleK_succ]
    cases i with
    | zero => rfl
    | succ i' =>
      dsimp only
      cases Nat.beq (Nat.mod i' 2) 0
      · exact (T.singleK_eq x f _ _).trans (congrArg k (T.singleK_eq x f _ (fun t => T.n none .e t)).symm)
      · exact (T.singleK_eq x f _ _).trans (congrArg k (T.singleK_eq x f _ (fun t => T.n none t .e)).symm)
theorem T.setK_eq {β : Type} (x : α) : ∀ (t : T α) (i : Nat) (k : T α → β), T.setK x t i k = k (t.set i x)
  | .e, i, k => T.singleK_eq x i i k
  | .n v l r, i, k => by
    unfold T.set
    rw [T.setK_n, T.setK_n]
    cases i with
    | zero => rfl
    | succ i' =>
      dsimp only
      cases Nat.beq (Nat.mod i' 2) 0
      · exact (T.setK_eq x r _ _).trans (congrArg k (T.setK_eq x r _ (fun t => T.n v l t)).symm)
      · exact (T.setK_eq x l _ _).trans (congrArg k (T.setK_eq x l _ (fun t => T.n v t r)).symm)
theorem half_inj {i j : Nat} (hd : Nat.div i 2 = Nat.div j 2) (hm : Nat.beq (Nat.mod i 2) 0 = Nat.beq (Nat.mod j 2) 0) : i = j := by
  have e1 : Nat.div i 2 = i / 2 := rfl
  have e2 : Nat.div j 2 = j / 2 := rfl
  have e3 : Nat.mod i 2 = i % 2 := rfl
  have e4 : Nat.mod j 2 = j % 2 := rfl
  rw [e1, e2] at hd
  rw [e3, e4] at hm
  rcases Nat.mod_two_eq_zero_or_one i with a | a <;> rcases Nat.mod_two_eq_zero_or_one j with b | b <;> rw [a, b] at hm <;> first | omega | simp at hm
theorem T.get_single (x : α) : ∀ (f i j : Nat), i ≤ f → (T.singleK x f i id).get j = if j = i then some x else none
  | 0, i, j, h => by
    obtain rfl : i = 0 := by omega
    show (T.n (some x) .e .e).get j = _
    rw [T.get_n]
    cases j with
    | zero => simp
    | succ j => dsimp only; cases Nat.beq (Nat.mod j 2) 0 <;> simp [T.get_e]
  | f + 1, i, j, h => by
    rw [T.singleK_succ]
    cases i with
    | zero =>
      show (T.n (some x) .e .e).get j = _
      rw [T.get_n]
      cases j with
      | zero => simp
      | succ j => dsimp only; cases Nat.beq (Nat.mod j 2) 0 <;> simp [T.get_e]
    | succ i' =>
      have hle : Nat.div i' 2 ≤ f := by show i' / 2 ≤ f; omega
      dsimp only
      cases hb : Nat.beq (Nat.mod i' 2) 0 <;> dsimp only <;> rw [T.singleK_eq] <;> simp only [id] <;> rw [T.get_n]
      · cases j with
        | zero => simp
        | succ j' =>
          dsimp only
          cases hb' : Nat.beq (Nat.mod j' 2) 0 <;> dsimp only
          · rw [T.get_single x f _ _ hle]
            by_cases he : j' = i'
            · subst he; simp
            · rw [if_neg (fun hd => he (half_inj hd (by rw [hb, hb']))), if_neg (by omega)]
          · rw [T.get_e, if_neg]; intro he; obtain rfl : j' = i' := by omega
            rw [hb] at hb'; cases hb'
      · cases j with
        | zero => simp
        | succ j' =>
          dsimp only
          cases hb' : Nat.beq (Nat.mod j' 2) 0 <;> dsimp only
          · rw [T.get_e, if_neg]; intro he; obtain rfl : j' = i' := by omega
            rw [hb] at hb'; cases hb'
          · rw [T.get_single x f _ _ hle]
            by_cases he : j' = i'
            · subst he; simp
            · rw [if_neg (fun hd => he (half_inj hd (by rw [hb, hb']))), if_neg (by omega)]
theorem T.get_set (x : α) : ∀ (t : T α) (i j : Nat), (t.set i x).get j = if j = i then some x else t.get j
  | .e, i, j => by
    show (T.singleK x i i id).get j = _
    rw [T.get_single x i i j (Nat.le_refl _), T.get_e]
  | .n v l r, i, j => by
    unfold T.set
    rw [T.setK_n]
    cases i with
    | zero =>
      show (T.n (some x) l r).get j = _
      rw [T.get_n, T.get_n]
      cases j with
      | zero => simp
      | succ j => simp
    | succ i' =>
      dsimp only
      cases hb : Nat.beq (Nat.mod i' 2) 0 <;> dsimp only <;> rw [T.setK_eq] <;> simp only [id] <;> rw [T.get_n, T.get_n]
      · cases j with
        | zero => simp
        | succ j' =>
          dsimp only
          cases hb' : Nat.beq (Nat.mod j' 2) 0 <;> dsimp only
          · rw [T.get_set x r]
            by_cases he : j' = i'
            · subst he; simp
            · rw [if_neg (fun hd => he (half_inj hd (by rw [hb, hb']))), if_neg (by omega)]
          · rw [if_neg]; intro he; obtain rfl : j' = i' := by omega
            rw [hb] at hb'; cases hb'
      · cases j with
        | zero => simp
        | succ j' =>
          dsimp only
          cases hb' : Nat.beq (Nat.mod j' 2) 0 <;> dsimp only
          · rw [if_neg]; intro he; obtain rfl : j' = i' := by omega
            rw [hb] at hb'; cases hb'
          · rw [T.get_set x l]
            by_cases he : j' = i'
            · subst he; simp
            · rw [if_neg (fun hd => he (half_inj hd (by rw [hb, hb']))), if_neg (by omega)]
def sets (vs : List V) (t : T V) (i : Nat) : T V := setsK vs t i id
theorem setsK_cons {β : Type} (v : V) (vs : List V) (t : T V) (i : Nat) (k : T V → β) : setsK (v :: vs) t i k = setsK vs (t.set i v) (i + 1) k := by
  show T.setK v t i (fun t => natK (Nat.succ i) fun i => setsK vs t i k) = _
  rw [T.setK_eq, natK_eq]
theorem setsK_eq {β : Type} : ∀ (vs : List V) (t : T V) (i : Nat) (k : T V → β), setsK vs t i k = k (sets vs t i)
  | [], _, _, _ => rfl
  | v :: vs, t, i, k => by
    rw [setsK_cons, setsK_eq vs]; unfold sets; rw [setsK_cons]
theorem sets_cons (v : V) (vs : List V) (t : T V) (i : Nat) : sets (v :: vs) t i = sets vs (t.set i v) (i + 1) := setsK_cons v vs t i id
theorem get_sets : ∀ (vs : List V) (t : T V) (i j : Nat), (sets vs t i).get j = if i ≤ j ∧ j < i + vs.length then vs[j - i]? else t.get j
  | [], t, i, j => by rw [if_neg (by simp <;> omega)]; rfl
  | v :: vs, t, i, j => by
    rw [sets_cons, get_sets vs, T.get_set]
    by_cases h1 : i + 1 ≤ j ∧ j < i + 1 + vs.length
    · rw [if_pos h1, if_pos (by simp; omega)]
      obtain ⟨d, hd⟩ : ∃ d, j - i = d + 1 := ⟨j - i - 1, by omega⟩
      rw [hd, List.getElem?_cons_succ]; congr 1; omega
    · rw [if_neg h1]
      by_cases h2 : j = i
      · subst h2; rw [if_pos rfl, if_pos (by simp)]; simp
      · rw [if_neg h2, if_neg (by simp; omega)]
end tries

theorem natsK_eq {β : Type} : ∀ (l : List Nat) (k : List Nat → β), natsK l k = k l
  | [], _ => rfl
  | a :: l, k => by simp only [natsK, natK_eq, natsK_eq l]
theorem nf0K_eq {β : Type} (v : V) (k : V → β) : nf0K v k = k v := by
  cases v <;> simp only [nf0K, natK_eq, intK_eq, natsK_eq]
  case bool b => cases b <;> rfl
  case sl b o n c => cases c <;> rfl
theorem nfsK_eq {β : Type} : ∀ (l : List V) (k : List V → β), nfsK l k = k l
  | [], _ => rfl
  | a :: l, k => by simp only [nfsK, nf0K_eq, nfsK_eq l]
theorem nfK_eq {β : Type} (v : V) (k : V → β) : nfK v k = k v := by
  cases v <;> simp only [nfK, nf0K_eq, nfsK_eq]

/-- Which block of the machine's memory stands for which of the world's; and how many elements a block that was appended to has room for. -/
structure Ren where
  at_ : Nat → Option Nat
  cap : Nat → Nat
def Ren.le (r s : Ren) : Prop := ∀ b c, r.at_ b = some c → s.at_ b = some c ∧ s.cap b = r.cap b
theorem Ren.le_refl (r : Ren) : r.le r := fun _ _ h => ⟨h, rfl⟩
theorem Ren.le_trans {r s t : Ren} (h : r.le s) (k : s.le t) : r.le t := fun b c hb =>
  ⟨(k b c (h b c hb).1).1, ((k b c (h b c hb).1).2).trans (h b c hb).2⟩

mutual
/-- What a value of the machine stands for. -/
inductive VR (r : Ren) : V → Value → Prop
  | bool (b : Bool) : VR r (.bool b) (.bool b)
  | int (k : IntKind) (n : Int) : VR r (.int k n) (.int k n)
  | str (s : List Nat) (x : ByteArray) (h : x.data.toList.map UInt8.toNat = s) : VR r (.str s) (.string x)
  | nilp : VR r .nilp (.pointer none)
  | ptr (b o c : Nat) (h : r.at_ b = some c) : VR r (.ptr b o) (.pointer (some ⟨c, o, none⟩))
  | nils : VR r .nils (.slice none 0 0)
  | slx (b o n m c : Nat) (h : r.at_ b = some c) : VR r (.sl b o n (.exact m)) (.slice (some ⟨c, o, none⟩) n m)
  | slu (b o n j c m : Nat) (h : r.at_ b = some c) (hm : m + j = r.cap b) : VR r (.sl b o n (.upto j)) (.slice (some ⟨c, o, none⟩) n m)
  | nilm : VR r .nilm (.map none)
  | map (b c : Nat) (h : r.at_ b = some c) : VR r (.map b) (.map (some c))
  | fn (f : Nat) (a b : List V) (x y : List Value) (h : VRs r a x) (k : VRs r b y) : VR r (.fn f a b) (.func (.func f) ⟨x⟩ ⟨y⟩)
  | yld (b c : Nat) (h : r.at_ b = some c) : VR r (.yld b) (.func (.yield c) #[] #[])
  | nilFunc : VR r .nilFunc .nilFunc
  | nilIface : VR r .nilIface .nilIface
  | iface (t : Nat) (v : V) (x : Value) (h : VR r v x) : VR r (.iface t v) (.iface t x)
  | agg (a : List V) (x : List Value) (h : VRs r a x) : VR r (.agg a) (.agg ⟨x⟩)
  | tup (a : List V) (x : List Value) (h : VRs r a x) : VR r (.tup a) (.tuple ⟨x⟩)
  | emp (a : Addr) (m : Nat) : VR r .emp (.slice (some a) 0 m)
  | unk (x : Value) : VR r .unk x
inductive VRs (r : Ren) : List V → List Value → Prop
  | nil : VRs r [] []
  | cons (v : V) (x : Value) (a : List V) (y : List Value) (h : VR r v x) (k : VRs r a y) : VRs r (v :: a) (x :: y)
end
mutual
theorem VR.mono {r s : Ren} (hl : r.le s) : ∀ {v : V} {x : Value}, VR r v x → VR s v x
  | _, _, .bool b => .bool b
  | _, _, .int k n => .int k n
  | _, _, .str a x h => .str a x h
  | _, _, .nilp => .nilp
  | _, _, .ptr b o c h => .ptr b o c (hl b c h).1
  | _, _, .nils => .nils
  | _, _, .slx b o n m c h => .slx b o n m c (hl b c h).1
  | _, _, .slu b o n j c m h hm => .slu b o n j c m (hl b c h).1 (by rw [(hl b c h).2]; exact hm)
  | _, _, .nilm => .nilm
  | _, _, .map b c h => .map b c (hl b c h).1
  | _, _, .fn f a b x y h k => .fn f a b x y (VRs.mono hl h) (VRs.mono hl k)
  | _, _, .yld b c h => .yld b c (hl b c h).1
  | _, _, .nilFunc => .nilFunc
  | _, _, .nilIface => .nilIface
  | _, _, .iface t v x h => .iface t v x (VR.mono hl h)
  | _, _, .agg a x h => .agg a x (VRs.mono hl h)
  | _, _, .tup a x h => .tup a x (VRs.mono hl h)
  | _, _, .emp a m => .emp a m
  | _, _, .unk x => .unk x
theorem VRs.mono {r s : Ren} (hl : r.le s) : ∀ {a : List V} {x : List Value}, VRs r a x → VRs s a x
  | _, _, .nil => .nil
  | _, _, .cons v x a y h k => .cons v x a y (VR.mono hl h) (VRs.mono hl k)
end
section lists
variable {r : Ren}
theorem VRs.length : ∀ {a : List V} {x : List Value}, VRs r a x → a.length = x.length
  | _, _, .nil => rfl
  | _, _, .cons _ _ _ _ _ k => by simp [VRs.length k]
theorem VRs.get : ∀ {a : List V} {x : List Value} {i : Nat} {v : V}, VRs r a x → a[i]? = some v → ∃ u, x[i]? = some u ∧ VR r v u
  | _, _, 0, v, .cons w x a y h k, he => by simp at he; subst he; exact ⟨x, by simp, h⟩
  | _, _, i + 1, v, .cons w x a y h k, he => by simp at he; simpa using VRs.get k he
theorem VRs.append : ∀ {a b : List V} {x y : List Value}, VRs r a x → VRs r b y → VRs r (a ++ b) (x ++ y)
  | _, _, _, _, .nil, k => k
  | _, _, _, _, .cons v x a y h k, k' => .cons v x _ _ h (VRs.append k k')
theorem VRs.drop : ∀ {a : List V} {x : List Value} (n : Nat), VRs r a x → VRs r (a.drop n) (x.drop n)
  | _, _, 0, h => h
  | _, _, _ + 1, .nil => .nil
  | _, _, n + 1, .cons _ _ _ _ _ k => VRs.drop n k
theorem VRs.take : ∀ {a : List V} {x : List Value} (n : Nat), VRs r a x → VRs r (a.take n) (x.take n)
  | _, _, 0, h => by simp; exact .nil
  | _, _, _ + 1, .nil => .nil
  | _, _, n + 1, .cons v x a y h k => .cons v x _ _ h (VRs.take n k)
theorem VRs.set : ∀ {a : List V} {x : List Value} (i : Nat) {v : V} {u : Value}, VRs r a x → VR r v u → VRs r (a.set i v) (x.set i u)
  | _, _, _, _, _, .nil, _ => .nil
  | _, _, 0, _, _, .cons _ _ a y _ k, h' => .cons _ _ a y h' k
  | _, _, i + 1, _, _, .cons v x a y h k, h' => .cons v x _ _ h (VRs.set i k h')
theorem VRs.of_get : ∀ {a : List V} {x : List Value}, a.length = x.length → (∀ (i : Nat) (v : V), a[i]? = some v → ∃ u, x[i]? = some u ∧ VR r v u) → VRs r a x
  | [], [], _, _ => .nil
  | v :: a, u :: x, hl, h => by
    obtain ⟨w, hw, hv⟩ := h 0 v rfl
    simp at hw; subst hw
    exact .cons _ _ _ _ hv (VRs.of_get (by simpa using hl) fun i v hi => by simpa using h (i + 1) v (by simpa using hi))
theorem VRs.of_get' {a : List V} {x : List Value} (hl : x.length = a.length) (h : ∀ (i : Nat) (v : V) (u : Value), a[i]? = some v → x[i]? = some u → VR r v u) : VRs r a x :=
  VRs.of_get hl.symm fun i v hi => by
    have hlt : i < x.length := by rw [hl]; exact (List.getElem?_eq_some_iff.1 hi).1
    exact ⟨x[i], List.getElem?_eq_getElem hlt, h i v _ hi (List.getElem?_eq_getElem hlt)⟩
theorem VR.cells {v : V} {x : Value} (h : VR r v x) (hu : v ≠ .unk) : VRs r v.cells x.cells.toList := by
  cases h <;> simp only [V.cells, Value.cells] <;> first | exact absurd rfl hu | assumption | exact .cons _ _ _ _ (by constructor <;> assumption) .nil
theorem VR.bool_inv {b : Bool} {x : Value} (h : VR r (.bool b) x) : x = .bool b := by cases h; rfl
theorem VR.int_inv {k : IntKind} {n : Int} {x : Value} (h : VR r (.int k n) x) : x = .int k n := by cases h; rfl
theorem VR.str_inv {s : List Nat} {x : Value} (h : VR r (.str s) x) : ∃ y : ByteArray, x = .string y ∧ y.data.toList.map UInt8.toNat = s := by cases h; exact ⟨_, rfl, by assumption⟩
theorem VR.ptr_inv {b o : Nat} {x : Value} (h : VR r (.ptr b o) x) : ∃ c, x = .pointer (some ⟨c, o, none⟩) ∧ r.at_ b = some c := by cases h; exact ⟨_, rfl, by assumption⟩
theorem VR.sl_inv {b o n : Nat} {cap : Cap} {x : Value} (h : VR r (.sl b o n cap) x) : ∃ c m, x = .slice (some ⟨c, o, none⟩) n m ∧ r.at_ b = some c ∧ (match cap with | .exact k => m = k | .upto j => m + j = r.cap b) := by
  cases h with
  | slx _ _ _ m c h => exact ⟨c, m, rfl, h, rfl⟩
  | slu _ _ _ j c m h hm => exact ⟨c, m, rfl, h, hm⟩
theorem VR.map_inv {b : Nat} {x : Value} (h : VR r (.map b) x) : ∃ c, x = .map (some c) ∧ r.at_ b = some c := by cases h; exact ⟨_, rfl, by assumption⟩
theorem VR.fn_inv {f : Nat} {a b : List V} {x : Value} (h : VR r (.fn f a b) x) : ∃ p q, x = .func (.func f) ⟨p⟩ ⟨q⟩ ∧ VRs r a p ∧ VRs r b q := by cases h; exact ⟨_, _, rfl, by assumption, by assumption⟩
theorem VR.yld_inv {b : Nat} {x : Value} (h : VR r (.yld b) x) : ∃ c, x = .func (.yield c) #[] #[] ∧ r.at_ b = some c := by cases h; exact ⟨_, rfl, by assumption⟩
theorem VR.iface_inv {t : Nat} {v : V} {x : Value} (h : VR r (.iface t v) x) : ∃ y, x = .iface t y ∧ VR r v y := by cases h; exact ⟨_, rfl, by assumption⟩
theorem VR.agg_inv {a : List V} {x : Value} (h : VR r (.agg a) x) : ∃ y, x = .agg ⟨y⟩ ∧ VRs r a y := by cases h; exact ⟨_, rfl, by assumption⟩
theorem VR.tup_inv {a : List V} {x : Value} (h : VR r (.tup a) x) : ∃ y, x = .tuple ⟨y⟩ ∧ VRs r a y := by cases h; exact ⟨_, rfl, by assumption⟩
theorem VR.emp_inv {x : Value} (h : VR r .emp x) : ∃ a m, x = .slice (some a) 0 m := by cases h; exact ⟨_, _, rfl⟩
theorem VR.nilp_inv {x : Value} (h : VR r .nilp x) : x = .pointer none := by cases h; rfl
theorem VR.nils_inv {x : Value} (h : VR r .nils x) : x = .slice none 0 0 := by cases h; rfl
theorem VR.nilm_inv {x : Value} (h : VR r .nilm x) : x = .map none := by cases h; rfl
theorem VR.nilFunc_inv {x : Value} (h : VR r .nilFunc x) : x = .nilFunc := by cases h; rfl
theorem VR.nilIface_inv {x : Value} (h : VR r .nilIface x) : x = .nilIface := by cases h; rfl
theorem VR.cellsO {v : V} {x : Value} {l : List V} (h : VR r v x) (hl : v.cellsO = some l) : VRs r l x.cells.toList := by
  cases h <;> simp only [V.cellsO, Option.some.injEq, reduceCtorEq] at hl <;> subst hl <;> simp only [Value.cells] <;> first | assumption | exact .cons _ _ _ _ (by constructor <;> assumption) .nil
end lists
end
end Go.Ev
