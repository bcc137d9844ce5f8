/- Contracts of functions of the program, walked, and plain laws. -/
import Derived.WalkKit
import Derived.Below
import Derived.Lib.Builder
import Derived.Lib.UnsafeStr
/- A step machine over known data: what a call computes where all that it reads is known. Definitions. -/
namespace Go.Ev
open Go

inductive T (α : Type) where
  | e
  | n (v : Option α) (l r : T α)

noncomputable section
def T.get {α : Type} (t : T α) : Nat → Option α :=
  T.rec (motive := fun _ => Nat → Option α) (fun _ => none)
    (fun v _ _ ihl ihr i => Nat.rec (motive := fun _ => Option α) v (fun i' _ => Bool.rec (motive := fun _ => Option α) (ihr (Nat.div i' 2)) (ihl (Nat.div i' 2)) (Nat.beq (Nat.mod i' 2) 0)) i) t
def T.singleK {α β : Type} (x : α) (f : Nat) : Nat → (T α → β) → β :=
  Nat.rec (motive := fun _ => Nat → (T α → β) → β) (fun _ k => k (.n (some x) .e .e))
   (fun _ ih i k => Nat.rec (motive := fun _ => β) (k (.n (some x) .e .e)) (fun i' _ => Bool.rec (motive := fun _ => β) (ih (Nat.div i' 2) (fun t => k (.n none .e t))) (ih (Nat.div i' 2) (fun t => k (.n none t .e))) (Nat.beq (Nat.mod i' 2) 0)) i) f
def T.setK {α β : Type} (x : α) (t : T α) : Nat → (T α → β) → β :=
  T.rec (motive := fun _ => Nat → (T α → β) → β) (fun i k => T.singleK x i i k)
    (fun v l r ihl ihr i k => Nat.rec (motive := fun _ => β) (k (.n (some x) l r)) (fun i' _ => Bool.rec (motive := fun _ => β) (ihr (Nat.div i' 2) (fun t => k (.n v l t))) (ihl (Nat.div i' 2) (fun t => k (.n v t r))) (Nat.beq (Nat.mod i' 2) 0)) i) t
def natK {β : Type} (n : Nat) (k : Nat → β) : β := Nat.casesOn n (k 0) (fun m => k (Nat.succ m))
def intK {β : Type} (i : Int) (k : Int → β) : β :=
  match i with
  | .ofNat m => natK m fun m => k (.ofNat m)
  | .negSucc m => natK m fun m => k (.negSucc m)

inductive Cap where
  | exact (n : Nat)
  | upto (j : Nat)

inductive V where
  | bool (b : Bool)
  | int (k : IntKind) (n : Int)
  | str (s : List Nat)
  | nilp
  | ptr (b off : Nat)
  | far (b : Nat)
  | nils
  | sl (b off len : Nat) (cap : Cap)
  | nilm
  | map (b : Nat)
  | fn (f : Nat) (first cap : List V)
  | yld (l : Nat)
  | nilFunc
  | nilIface
  | iface (t : Nat) (v : V)
  | agg (cs : List V)
  | tup (vs : List V)
  | emp (b off j : Nat)
  | unk

/-- A deferred call, or the mark of a range over a function. -/
inductive AD where
  | call (f : Nat) (args : List V)
  | mark (r : Nat)

inductive AObj where
  | dead
  | cells (elem : Nat) (rw opn : Bool) (size : Nat) (z : List V) (t : T V)
  | map (es : List (V × V × Nat)) (clock : Nat)
  | mapIter (m : Option Nat) (since : Nat) (seen : List Nat) (stepped : Nat)
  | mapIterU (m : Nat) (since : Nat) (stamps : List Nat) (cnt : Nat) (stepped : Nat)
  | strIter (s : List Nat) (pos : Nat)
  | loop (st : LoopState) (pending : Option Code) (fn : Nat) (n : Nat) (tm : T V) (params : List Tmp) (assign body : Code) (dfs : Nat)
  | dfr
  | dfrNone

structure H where
  t : T AObj
  nx : Nat

/-- A step of the plan of a region that draws its order: an operation that only reads, one that only lays a block, or one that acts, with those that may still be outstanding behind it. -/
inductive PS where
  | rd (o : Oper) (rc : List Oper)
  | al (o : Oper) (rc : List Oper)
  | act (o : Oper) (rc : List Oper)
inductive PI where
  | rd (i : Nat)
  | al (i : Nat)
  | act (i : Nat) (rc : List Nat)

inductive AI where
  | code (c : Code)
  | inBlock (id : Nat)
  | inLoop (body : Code)
  | inScope (body : Code)
  | reg (ops : Array Oper) (rest : List Oper)
  | dreg (ops : Array Oper) (plan : List PS)
  | inRF (l : Nat)
  | endRF (l : Nat)
  | beginRound

structure AF where
  fn : Nat
  n : Nat
  tm : T V
  todo : List AI
  dfs : List AD
  ret : Bool
  dk : Bool
  rnd : Option Nat

structure S where
  top : AF
  rest : List AF
  h : H

-- numbers
def modK : IntKind → Nat
  | .i8 | .u8 => 256
  | .i16 | .u16 => 65536
  | .i32 | .u32 => 4294967296
  | .i64 | .u64 => 18446744073709551616
def halfK : IntKind → Nat
  | .i8 | .u8 => 128
  | .i16 | .u16 => 32768
  | .i32 | .u32 => 2147483648
  | .i64 | .u64 => 9223372036854775808
def bitsK : IntKind → Nat
  | .i8 | .u8 => 8
  | .i16 | .u16 => 16
  | .i32 | .u32 => 32
  | .i64 | .u64 => 64
def adj (k : IntKind) (r : Nat) : Int :=
  match k.signed with
  | true => match Nat.ble (halfK k) r with
    | true => .negSucc (Nat.sub (Nat.sub (modK k) r) 1)
    | false => .ofNat r
  | false => .ofNat r
def toU (k : IntKind) (n : Int) : Nat :=
  match n with
  | .ofNat m => Nat.mod m (modK k)
  | .negSucc m => Nat.sub (Nat.sub (modK k) 1) (Nat.mod m (modK k))
def wrapF (k : IntKind) (n : Int) : Int := adj k (toU k n)
def ltF (x y : Int) : Bool :=
  match x with
  | .ofNat a => match y with
    | .ofNat b => Nat.ble (Nat.succ a) b
    | .negSucc _ => false
  | .negSucc a => match y with
    | .ofNat _ => true
    | .negSucc b => Nat.ble (Nat.succ b) a
def eqF (x y : Int) : Bool :=
  match x with
  | .ofNat a => match y with
    | .ofNat b => Nat.beq a b
    | .negSucc _ => false
  | .negSucc a => match y with
    | .ofNat _ => false
    | .negSucc b => Nat.beq a b
def kindEq (a b : IntKind) : Bool :=
  match a, b with
  | .i8, .i8 | .i16, .i16 | .i32, .i32 | .i64, .i64 | .u8, .u8 | .u16, .u16 | .u32, .u32 | .u64, .u64 => true
  | _, _ => false
def shlF (k : IntKind) (x y : Int) : Option Int :=
  match y with
  | .ofNat s => some (wrapF k (Int.mul x (.ofNat (Nat.pow 2 (Nat.min s (bitsK k))))))
  | .negSucc _ => none
def shrF (k : IntKind) (x y : Int) : Option Int :=
  match y with
  | .ofNat s => match x with
    | .ofNat m => some (.ofNat (Nat.div m (Nat.pow 2 (Nat.min s (bitsK k)))))
    | .negSucc m => some (.negSucc (Nat.div m (Nat.pow 2 (Nat.min s (bitsK k)))))
  | .negSucc _ => none
def intOp (op : BinOp) (k : IntKind) (x y : Int) : Option V :=
  match op with
  | .add => some (.int k (wrapF k (Int.add x y)))
  | .sub => some (.int k (wrapF k (Int.sub x y)))
  | .mul => some (.int k (wrapF k (Int.mul x y)))
  | .quo => match eqF y (.ofNat 0) with | true => none | false => some (.int k (wrapF k (Int.tdiv x y)))
  | .rem => match eqF y (.ofNat 0) with | true => none | false => some (.int k (Int.tmod x y))
  | .and => some (.int k (adj k (Nat.land (toU k x) (toU k y))))
  | .or => some (.int k (adj k (Nat.lor (toU k x) (toU k y))))
  | .xor => some (.int k (adj k (Nat.xor (toU k x) (toU k y))))
  | .andNot => some (.int k (adj k (Nat.land (toU k x) (Nat.sub (Nat.sub (modK k) 1) (toU k y)))))
  | .eql => some (.bool (eqF x y))
  | .neq => some (.bool (!eqF x y))
  | .lss => some (.bool (ltF x y))
  | .leq => some (.bool (!ltF y x))
  | .gtr => some (.bool (ltF y x))
  | .geq => some (.bool (!ltF x y))
  | _ => none
def leqL : List Nat → List Nat → Bool
  | [], [] => true
  | a :: x, b :: y => match Nat.beq a b with | true => leqL x y | false => false
  | _, _ => false
def lessL : List Nat → List Nat → Bool
  | _, [] => false
  | [], _ :: _ => true
  | a :: x, b :: y => match Nat.ble (Nat.succ a) b with
    | true => true
    | false => match Nat.beq a b with | true => lessL x y | false => false
def strOp (op : BinOp) (x y : List Nat) : Option V :=
  match op with
  | .add => match Nat.ble (Nat.add x.length y.length) 1000000000 with | true => some (.str (x ++ y)) | false => none
  | .eql => some (.bool (leqL x y))
  | .neq => some (.bool (!leqL x y))
  | .lss => some (.bool (lessL x y))
  | .leq => some (.bool (lessL x y || leqL x y))
  | .gtr => some (.bool (!(lessL x y || leqL x y)))
  | .geq => some (.bool (!lessL x y))
  | _ => none

-- normal forms
def natsK {β : Type} : List Nat → (List Nat → β) → β
  | [], k => k []
  | a :: l, k => natK a fun a => natsK l fun l => k (a :: l)
def nf0K {β : Type} (v : V) (k : V → β) : β :=
  match v with
  | .int i n => intK n fun n => k (.int i n)
  | .bool b => match b with | true => k (.bool true) | false => k (.bool false)
  | .ptr b o => natK b fun b => natK o fun o => k (.ptr b o)
  | .sl b o n c => natK b fun b => natK o fun o => natK n fun n => match c with
    | .exact m => natK m fun m => k (.sl b o n (.exact m))
    | .upto m => natK m fun m => k (.sl b o n (.upto m))
  | .str s => natsK s fun s => k (.str s)
  | v => k v
def nfsK {β : Type} : List V → (List V → β) → β
  | [], k => k []
  | a :: l, k => nf0K a fun a => nfsK l fun l => k (a :: l)
def nfK {β : Type} (v : V) (k : V → β) : β :=
  match v with
  | .agg cs => nfsK cs fun cs => k (.agg cs)
  | .tup cs => nfsK cs fun cs => k (.tup cs)
  | .iface t v => nf0K v fun v => k (.iface t v)
  | v => nf0K v k

-- types
def tyI (P : Program) (t : Nat) : Option (Bool × Nat) :=
  match P.underlying t, P.info? t with
  | some d, some i => some (match d with | .struct _ => true | .array _ _ => true | _ => false, i.size)
  | _, _ => none
def ofVal0 (v : Value) : Option V :=
  match v with
  | .bool b => some (.bool b)
  | .int k n => some (.int k n)
  | .string s => some (.str (s.data.toList.map UInt8.toNat))
  | .pointer none => some .nilp
  | .slice none 0 0 => some .nils
  | .map none => some .nilm
  | .nilFunc => some .nilFunc
  | .nilIface => some .nilIface
  | _ => none
def ofVals : List Value → Option (List V)
  | [] => some []
  | v :: l => match ofVal0 v with
    | some a => match ofVals l with
      | some l => some (a :: l)
      | none => none
    | none => none
def ofVal (v : Value) : Option V :=
  match v with
  | .agg cs => match ofVals cs.toList with | some l => some (.agg l) | none => none
  | v => ofVal0 v
def zeroV (P : Program) (t : Nat) : Option V :=
  match P.info? t with
  | some i => match i.zero with | some v => ofVal v | none => none
  | none => none
def V.cells : V → List V
  | .agg cs => cs
  | v => [v]
def V.cellsO : V → Option (List V)
  | .agg cs => some cs
  | .unk => none
  | v => some [v]
def ev (tm : Nat → Option V) (x : Operand) : Option V :=
  match x with
  | .tmp t => tm t
  | .const v => ofVal v
  | .global g => match Nat.ble (Nat.succ g) 500 with | true => some (.ptr g 0) | false => none
  | .func f => some (.fn f [] [])
def evs (tm : Nat → Option V) : List Operand → Option (List V)
  | [] => some []
  | x :: l => match ev tm x with
    | some a => match evs tm l with
      | some l => some (a :: l)
      | none => none
    | none => none
def evParts (tm : Nat → Option V) : List (Nat × Operand) → Option (List (Nat × V))
  | [] => some []
  | x :: l => match ev tm x.2 with
    | some a => match evParts tm l with
      | some l => some ((x.1, a) :: l)
      | none => none
    | none => none

-- cells
def zget (z : List V) (i : Nat) : Option V :=
  match z with
  | [] => none
  | [x] => some x
  | z => z[Nat.mod i z.length]?
def cellAt (t : T V) (size : Nat) (z : List V) (i : Nat) : Option V :=
  match Nat.ble (Nat.succ i) size with
  | true => match t.get i with
    | some v => some v
    | none => zget z i
  | false => none
def cellsAt (t : T V) (size : Nat) (z : List V) (off n : Nat) : List V → Option (List V) :=
  Nat.rec (motive := fun _ => List V → Option (List V)) (fun acc => some acc)
    (fun m ih acc => match cellAt t size z (Nat.add off m) with
      | some v => ih (v :: acc)
      | none => none) n
def loadN (h : H) (b off n : Nat) : Option (List V) :=
  match h.t.get b with
  | some (.cells _ _ _ size z t) => cellsAt t size z off n []
  | _ => none
def load1 (h : H) (b off : Nat) : Option V :=
  match h.t.get b with
  | some (.cells _ _ _ size z t) => cellAt t size z off
  | _ => none
def loadT (P : Program) (h : H) (t b off : Nat) : Option V :=
  match tyI P t with
  | some (true, n) => match loadN h b off n with | some l => some (.agg l) | none => none
  | some (false, _) => load1 h b off
  | none => none
def V.one : V → Bool
  | .agg _ => false
  | .tup _ => false
  | .unk => false
  | _ => true
def ones : List V → Bool
  | [] => true
  | v :: l => v.one && ones l
def setsK {β : Type} (vs : List V) : T V → Nat → (T V → β) → β :=
  List.rec (motive := fun _ => T V → Nat → (T V → β) → β) (fun t _ k => k t)
    (fun v _ ih t i k => T.setK v t i fun t => natK (Nat.succ i) fun i => ih t i k) vs
/-- Cells stored into a block that may be written, within its known size. -/
def storeK {β : Type} (h : H) (b off : Nat) (vs : List V) (none' : β) (k : H → β) : β :=
  match h.t.get b with
  | some (.cells e true opn size z t) =>
    match Nat.ble (Nat.add off vs.length) size && ones vs with
    | true => setsK vs t off fun t => T.setK (.cells e true opn size z t) h.t b fun ht => k ⟨ht, h.nx⟩
    | false => none'
  | _ => none'
/-- A new block of given cells. -/
def newK {β : Type} (h : H) (elem : Nat) (opn : Bool) (vs : List V) (k : Nat → H → β) : β :=
  setsK vs .e 0 fun t => natK vs.length fun n => natK h.nx fun nx => T.setK (.cells elem true opn n [] t) h.t nx fun ht => k nx ⟨ht, Nat.succ nx⟩
def newObjK {β : Type} (h : H) (o : AObj) (k : Nat → H → β) : β :=
  natK h.nx fun nx => T.setK o h.t nx fun ht => k nx ⟨ht, Nat.succ nx⟩

-- keys
def keyEq (a b : V) : Option Bool :=
  match a, b with
  | .int k x, .int j y => match kindEq k j with | true => some (eqF x y) | false => none
  | .str x, .str y => some (leqL x y)
  | _, _ => none
def kfind (key : V) : List (V × V × Nat) → Nat → Option (Option (Nat × V))
  | [], _ => some none
  | e :: es, i => match keyEq key e.1 with
    | some true => some (some (i, e.2.1))
    | some false => kfind key es (Nat.succ i)
    | none => none
/-- The types of keys that are looked up by their value: strings and integers. -/
def plainKey (P : Program) (kt : Nat) (key : V) : Bool :=
  match P.underlying kt, key with
  | some .string, .str _ => true
  | some (.int i), .int k _ => kindEq k i
  | _, _ => false
def mset (es : List (V × V × Nat)) (i : Nat) (key val : V) : List (V × V × Nat) :=
  match es with
  | [] => []
  | e :: es => match i with
    | 0 => (key, val, e.2.2) :: es
    | i + 1 => e :: mset es i key val
def beq0 (a b : V) : Bool :=
  match a, b with
  | .bool x, .bool y => match x, y with | true, true => true | false, false => true | _, _ => false
  | .int k x, .int j y => match kindEq k j with | true => eqF x y | false => false
  | .str x, .str y => leqL x y
  | .nilp, .nilp | .nils, .nils | .nilm, .nilm | .nilFunc, .nilFunc | .nilIface, .nilIface => true
  | .ptr b o, .ptr c p => match Nat.beq b c with | true => Nat.beq o p | false => false
  | .far b, .far c => Nat.beq b c
  | .emp b o n, .emp c p m => Nat.beq b c && (Nat.beq o p && Nat.beq n m)
  | .sl b o n (.exact x), .sl c p m (.exact y) => Nat.beq b c && (Nat.beq o p && (Nat.beq n m && Nat.beq x y))
  | .sl b o n (.upto x), .sl c p m (.upto y) => Nat.beq b c && (Nat.beq o p && (Nat.beq n m && Nat.beq x y))
  | .map b, .map c => Nat.beq b c
  | _, _ => false
def beqs (f : V → V → Bool) : List V → List V → Bool
  | [], [] => true
  | a :: x, b :: y => match f a b with | true => beqs f x y | false => false
  | _, _ => false
def beqW (f : V → V → Bool) (a b : V) : Bool :=
  match a, b with
  | .agg x, .agg y => beqs f x y
  | .tup x, .tup y => beqs f x y
  | .fn p x y, .fn q z w => Nat.beq p q && (beqs f x z && beqs f y w)
  | .iface t x, .iface u y => Nat.beq t u && f x y
  | a, b => beq0 a b
def beqV (a b : V) : Bool := beqW (beqW beq0) a b

-- equality of Go
def isConst : Operand → Bool
  | .const _ => true
  | _ => false
def cellEqT (P : Program) (t : Nat) (a b : V) : Option Bool :=
  match P.underlying t, a, b with
  | some .bool, .bool x, .bool y => some (x == y)
  | some (.int _), .int k x, .int j y => match kindEq k j with | true => some (eqF x y) | false => none
  | some .string, .str x, .str y => some (leqL x y)
  | _, _, _ => none
/-- Structs whose fields are strings, integers, truth values, one behind the other. -/
def eqFs (P : Program) : List Field → Nat → List V → List V → Option Bool
  | [], _, [], [] => some true
  | f :: fs, i, a :: x, b :: y => match Nat.beq f.offset i && f.name != "_" with
    | true => match cellEqT P f.type a b with
      | some true => eqFs P fs (Nat.succ i) x y
      | some false => some false
      | none => none
    | false => none
  | _, _, _, _ => none
/-- Pointers that are known by name alone: the names 500 to 999 are kept for them. -/
def isFar (b : Nat) : Bool := Nat.ble 500 b && Nat.ble (Nat.succ b) 1000
def farEq (b c : Nat) : Option Bool :=
  match Nat.beq b c with
  | true => some true
  | false => match isFar b && isFar c with
    | true => some false
    | false => none
def ptrEq (b o c p : Nat) : Option Bool :=
  match Nat.beq b c with
  | true => some (Nat.beq o p)
  | false => none
/-- Of what stands in an interface. -/
def eqI (P : Program) (t : Nat) (x y : V) : Option Bool :=
  match P.underlying t, x, y with
  | some (.pointer e), .ptr b o, .ptr c p => match tyI P e with
    | some (_, Nat.succ _) => ptrEq b o c p
    | _ => none
  | some (.pointer e), .far b, .far c => match tyI P e with
    | some (_, Nat.succ _) => farEq b c
    | _ => none
  | _, x, y => cellEqT P t x y
def eqV (P : Program) (t : Nat) (x y : V) (c : Bool) : Option Bool :=
  match P.underlying t, x, y with
  | some (.pointer e), .ptr b o, .ptr c p => match tyI P e with
    | some (_, Nat.succ _) => ptrEq b o c p
    | _ => none
  | some (.pointer e), .far b, .far c => match tyI P e with
    | some (_, Nat.succ _) => farEq b c
    | _ => none
  | some (.interface _), .iface t1 v1, .iface t2 v2 => match Nat.beq t1 t2 with
    | false => some false
    | true => match P.info? t1 with
      | some i => match i.comparable with
        | true => eqI P t1 v1 v2
        | false => none
      | none => none
  | some .bool, .bool a, .bool b => some (a == b)
  | some (.pointer _), .nilp, .nilp => some true
  | some (.pointer _), .nilp, .ptr _ _ => some false
  | some (.pointer _), .nilp, .far _ => some false
  | some (.pointer _), .far _, .nilp => some false
  | some (.pointer _), .ptr _ _, .nilp => some false
  | some (.interface _), .nilIface, .nilIface => match c with | true => some true | false => none
  | some (.interface _), .nilIface, .iface _ _ => some false
  | some (.interface _), .iface _ _, .nilIface => some false
  | some (.slice _), .nils, .nils => some true
  | some (.slice _), .nils, .sl _ _ _ _ => some false
  | some (.slice _), .nils, .emp _ _ _ => some false
  | some (.slice _), .emp _ _ _, .nils => some false
  | some (.slice _), .sl _ _ _ _, .nils => some false
  | some (.map _ _), .nilm, .nilm => some true
  | some (.map _ _), .nilm, .map _ => some false
  | some (.map _ _), .map _, .nilm => some false
  | some (.func _ _ _), .nilFunc, .nilFunc => some true
  | some (.func _ _ _), .nilFunc, .fn _ _ _ => some false
  | some (.func _ _ _), .fn _ _ _, .nilFunc => some false
  | some (.struct fs), .agg a, .agg b => match !P.stoodInHeld t && !P.eqGuardType P.depth t with
    | true => eqFs P fs.toList 0 a b
    | false => none
  | _, _, _ => none
def binV (P : Program) (op : BinOp) (t : Nat) (xo yo : Operand) (x y : V) : Option V :=
  match x, y with
  | .int k a, .int j b =>
    match op with
    | .shl => match shlF k a b with | some r => some (.int k r) | none => none
    | .shr => match shrF k a b with | some r => some (.int k r) | none => none
    | op => match kindEq k j with | true => intOp op k a b | false => none
  | .str a, .str b => strOp op a b
  | x, y => match op with
    | .eql => match eqV P t x y (isConst xo || isConst yo) with | some b => some (.bool b) | none => none
    | .neq => match eqV P t x y (isConst xo || isConst yo) with | some b => some (.bool (!b)) | none => none
    | _ => none

-- structs, slices
def fieldI (P : Program) (t f : Nat) : Option (Nat × Nat × Bool) :=
  match P.underlying t with
  | some (.struct fs) => match fs[f]? with
    | some fd => match tyI P fd.type with
      | some (g, n) => some (fd.offset, n, g)
      | none => none
    | none => none
  | _ => none
def part (g : Bool) (cs : List V) (off n : Nat) : Option V :=
  match g with
  | true => some (.agg ((cs.drop off).take n))
  | false => cs[off]?
def fillAt (vc : List V) (off : Nat) (cells : List V) : List V :=
  match vc with
  | [] => cells
  | v :: vc => fillAt vc (Nat.succ off) (cells.set off v)
def fillL (place : Nat → Option (Nat × Nat)) (cells : List V) : List (Nat × V) → Option (List V)
  | [] => some cells
  | (i, v) :: rest =>
    match place i with
    | none => none
    | some (off, size) => match v.cellsO with
      | none => none
      | some vc => match Nat.beq vc.length size with
        | false => none
        | true => match Nat.ble (Nat.add off size) cells.length with
          | false => none
          | true => fillL place (fillAt vc off cells) rest
def placesL (P : Program) : List Field → Option (List (Nat × Nat))
  | [] => some []
  | f :: fs => match P.info? f.type with
    | some i => match placesL P fs with
      | some l => some ((f.offset, i.size) :: l)
      | none => none
    | none => none
def placesT (P : Program) (t : Nat) : Option (List (Nat × Nat)) :=
  match P.underlying t with
  | some (.struct fs) => placesL P fs.toList
  | _ => none
def buildV (P : Program) (t : Nat) (parts : List (Nat × V)) : Option V :=
  match zeroV P t with
  | some z => match P.underlying t with
    | some (.struct _) => match placesT P t with
      | some pl => match fillL (fun i => pl[i]?) z.cells parts with | some l => some (.agg l) | none => none
      | none => none
    | some (.array _ elem) => match tyI P elem with
      | some (_, n) => match fillL (fun i => some (Nat.mul i n, n)) z.cells parts with | some l => some (.agg l) | none => none
      | none => none
    | _ => none
  | none => none
def sliceElem (P : Program) (t : Nat) : Option (Nat × Nat × Bool) :=
  match P.underlying t with
  | some (.slice elem) => match tyI P elem with
    | some (g, n) => some (elem, n, g)
    | none => none
  | _ => none
def repl (z : List V) : Nat → List V → List V
  | 0, acc => acc
  | n + 1, acc => repl z n (z ++ acc)
/-- How many elements of a slice's block are known to be there from the slice's first on. -/
def known (P : Program) (h : H) (b off esz j : Nat) : Option Nat :=
  match h.t.get b with
  | some (.cells e _ opn size _ _) => match tyI P e with
    | some (_, n) => match Nat.ble off size && (opn && (Nat.beq off (Nat.mul j esz) && Nat.beq n esz)), esz with
      | true, e + 1 => some (Nat.div (Nat.sub size off) (Nat.succ e))
      | _, _ => none
    | none => none
  | _ => none
def optNat (tm : Nat → Option V) (x : Option Operand) (d : Nat) : Option Nat :=
  match x with
  | none => some d
  | some x => match ev tm x with
    | some (.int _ (.ofNat n)) => some n
    | _ => none
def sliceV (P : Program) (tm : Nat → Option V) (h : H) (t : Nat) (x : V) (lo hi mx : Option Operand) : Option V :=
  match P.underlying t, x with
  | some .string, .str s =>
    match mx with
    | some _ => none
    | none => match optNat tm hi s.length with
      | some hh => match optNat tm lo 0 with
        | some l => match Nat.ble l hh with
          | true => match Nat.ble hh s.length with
            | true => some (.str ((s.take hh).drop l))
            | false => none
          | false => none
        | none => none
      | none => none
  | some (.slice elem), .nils =>
    match optNat tm mx 0, tyI P elem with
    | some 0, some _ => match optNat tm hi 0 with
      | some 0 => match optNat tm lo 0 with
        | some 0 => some .nils
        | _ => none
      | _ => none
    | _, _ => none
  | some (.slice elem), .sl b off len cap =>
    match tyI P elem with
    | none => none
    | some (_, esz) => match cap with
      | .exact c => match optNat tm mx c with
        | none => none
        | some m => match optNat tm hi len with
          | none => none
          | some hh => match optNat tm lo 0 with
            | none => none
            | some l => match Nat.ble l hh with
              | false => none
              | true => match Nat.ble hh m with
                | false => none
                | true => match Nat.ble m c with
                  | false => none
                  | true => some (.sl b (match Nat.beq m l with | true => off | false => Nat.add off (Nat.mul l esz)) (Nat.sub hh l) (.exact (Nat.sub m l)))
      | .upto j => match known P h b off esz j with
        | none => none
        | some kn => match mx with
          | some mo => match optNat tm (some mo) 0 with
            | none => none
            | some m => match optNat tm hi len with
              | none => none
              | some hh => match optNat tm lo 0 with
                | none => none
                | some l => match Nat.ble l hh with
                  | false => none
                  | true => match Nat.ble hh m with
                    | false => none
                    | true => match Nat.ble m kn with
                      | false => none
                      | true => some (.sl b (match Nat.beq m l with | true => off | false => Nat.add off (Nat.mul l esz)) (Nat.sub hh l) (.exact (Nat.sub m l)))
          | none => match optNat tm hi len with
            | none => none
            | some hh => match optNat tm lo 0 with
              | none => none
              | some l => match Nat.ble l hh with
                | false => none
                | true => match Nat.ble hh kn with
                  | false => none
                  | true => match l with
                    | 0 => some (.sl b off hh (.upto j))
                    | l + 1 => match Nat.ble (Nat.succ (Nat.succ l)) kn with
                      | true => some (.sl b (Nat.add off (Nat.mul (Nat.succ l) esz)) (Nat.sub hh (Nat.succ l)) (.upto (Nat.add j (Nat.succ l))))
                      | false => some (.emp b (Nat.add off (Nat.mul (Nat.succ l) esz)) (Nat.add j (Nat.succ l)))
  | _, _ => none
def hiOk (hi mx : Option Operand) : Bool :=
  match hi, mx with
  | none, some _ => false
  | _, _ => true
def sliceAtV (P : Program) (tm : Nat → Option V) (h : H) (t : Nat) (x : V) (lo hi mx : Option Operand) : Option V :=
  match hiOk hi mx with
  | false => none
  | true => match P.underlying t with
    | some (.array n elem) => match x, tyI P elem with
      | .ptr b off, some (_, esz) => match optNat tm mx n with
        | none => none
        | some m => match optNat tm hi n with
          | none => none
          | some hh => match optNat tm lo 0 with
            | none => none
            | some l => match Nat.ble l hh with
              | false => none
              | true => match Nat.ble hh m with
                | false => none
                | true => match Nat.ble m n with
                  | false => none
                  | true => some (.sl b (match Nat.beq m l with | true => off | false => Nat.add off (Nat.mul l esz)) (Nat.sub hh l) (.exact (Nat.sub m l)))
      | _, _ => none
    | _ => sliceV P tm h t x lo hi mx
def bytesOf : List V → Option (List Nat)
  | [] => some []
  | .int .u8 (.ofNat m) :: l => match Nat.ble (Nat.succ m) 256 with
    | true => match bytesOf l with
      | some l => some (m :: l)
      | none => none
    | false => none
  | _ :: _ => none
def convV (P : Program) (h : H) (src dst : Nat) (x : V) : Option V :=
  match P.underlying src, P.underlying dst, x with
  | some _, some (.int k), .int _ n => some (.int k (wrapF k n))
  | some _, some .string, .str s => some (.str s)
  | some (.pointer t), some .unsafePointer, .ptr b o => match tyI P t, h.t.get b with
    | some (_, Nat.succ _), some (.cells _ _ _ size _ _) => match Nat.ble (Nat.succ o) size with
      | true => some (.ptr b o)
      | false => none
    | _, _ => none
  | some .unsafePointer, some (.pointer u), .ptr b o => match P.info? u, h.t.get b with
    | some _, some (.cells e _ false size _ _) => match liesAt P P.depth e (Nat.div size (P.cellsOf e)) o u 1 with
      | true => some (.ptr b o)
      | false => none
    | _, _ => none
  | some (.slice e), some .string, x => match P.underlying e with
    | some (.int .u8) => match x with
      | .nils => some (.str [])
      | .sl b off len _ => match loadN h b off len with
        | some l => match bytesOf l with
          | some l => some (.str l)
          | none => none
        | none => none
      | _ => none
    | _ => none
  | _, _, _ => none
def lenV (P : Program) (h : H) (t : Nat) (x : V) : Option V :=
  match P.underlying t, x with
  | some .string, .str s => some (.int .i64 (.ofNat s.length))
  | some (.array n _), _ => some (.int .i64 (.ofNat n))
  | some (.slice _), .nils => some (.int .i64 (.ofNat 0))
  | some (.slice _), .emp _ _ _ => some (.int .i64 (.ofNat 0))
  | some (.slice _), .sl _ _ n _ => some (.int .i64 (.ofNat n))
  | some (.map _ _), .nilm => some (.int .i64 (.ofNat 0))
  | some (.map _ _), .map b => match h.t.get b with
    | some (.map es _) => some (.int .i64 (.ofNat es.length))
    | _ => none
  | _, _ => none
def mapEs (h : H) (m : V) : Option (List (V × V × Nat)) :=
  match m with
  | .nilm => some []
  | .map b => match h.t.get b with
    | some (.map es _) => some es
    | _ => none
  | _ => none
def lookV (P : Program) (h : H) (t : Nat) (m key : V) (ok : Bool) : Option V :=
  match P.underlying t with
  | some (.map kt et) => match plainKey P kt key with
    | false => none
    | true => match mapEs h m with
      | none => none
      | some es => match kfind key es 0 with
        | none => none
        | some (some (_, v)) => some (match ok with | true => .tup [v, .bool true] | false => v)
        | some none => match zeroV P et with
          | none => none
          | some v => some (match ok with | true => .tup [v, .bool false] | false => v)
  | _ => none
/-- Are all wanted methods there? -/
def hasAll (want : Array (String × Nat)) (got : Array Method) : Bool :=
  want.toList.all fun (name, sig) => got.any fun m => m.name == name && m.sig == sig
def assertV (P : Program) (x : V) (at_ : Nat) (ok : Bool) : Option V :=
  match P.underlying at_ with
  | none => none
  | some (.interface want) => match x with
    | .iface t v => match P.info? t with
      | some i => match hasAll want i.methods with
        | true => some (match ok with | true => .tup [.iface t v, .bool true] | false => .iface t v)
        | false => match ok with
          | true => match zeroV P at_ with
            | some z => some (.tup [z, .bool false])
            | none => none
          | false => none
      | none => none
    | .nilIface => match ok with
      | true => match zeroV P at_ with
        | some z => some (.tup [z, .bool false])
        | none => none
      | false => none
    | _ => none
  | some _ => match x with
    | .iface t v => match Nat.beq t at_ with
      | true => some (match ok with | true => .tup [v, .bool true] | false => v)
      | false => match ok with
        | true => match zeroV P at_ with
          | some z => some (.tup [z, .bool false])
          | none => none
        | false => none
    | .nilIface => match ok with
      | true => match zeroV P at_ with
        | some z => some (.tup [z, .bool false])
        | none => none
      | false => none
    | _ => none
def minV (mx : Bool) (x y : V) : Option V :=
  match x, y with
  | .int k a, .int _ b => match mx with
    | false => some (.int k (match ltF b a with | true => b | false => a))
    | true => some (.int k (match ltF a b with | true => b | false => a))
  | _, _ => none
def minsV (mx : Bool) (x : V) : List V → Option V
  | [] => some x
  | y :: l => match minV mx x y with
    | some z => minsV mx z l
    | none => none

def lastN : List Nat → Option Nat
  | [] => none
  | [a] => some a
  | _ :: l => lastN l
def findStamp (st : Nat) : List (V × V × Nat) → Option (V × V)
  | [] => none
  | e :: es => match Nat.beq e.2.2 st with
    | true => some (e.1, e.2.1)
    | false => findStamp st es
def uniform (v : V) (since : Nat) : List (V × V × Nat) → Bool
  | [] => true
  | e :: es => beqV e.2.1 v && (Nat.ble (Nat.succ e.2.2) since && uniform v since es)
def stampsOf : List (V × V × Nat) → List Nat
  | [] => []
  | e :: es => e.2.2 :: stampsOf es
def nodupN : List Nat → Bool
  | [] => true
  | a :: l => !(l.any (Nat.beq a)) && nodupN l
def entryV (h : H) (it : V) : Option V :=
  match it with
  | .ptr r 0 => match h.t.get r with
    | some (.mapIter (some m) _ seen stepped) => match h.t.get m with
      | some (.map es clock) => match Nat.beq clock stepped with
        | true => match lastN seen with
          | some st => match findStamp st es with
            | some (k, v) => some (.tup [k, v])
            | none => none
          | none => none
        | false => none
      | _ => none
    | some (.mapIterU m since st (_ + 1) stepped) => match h.t.get m with
      | some (.map es clock) => match Nat.beq clock stepped && leqL (stampsOf es) st with
        | true => match es with
          | [] => none
          | e :: _ => match uniform e.2.1 since es with
            | true => some (.tup [.unk, e.2.1])
            | false => none
        | false => none
      | _ => none
    | _ => none
  | _ => none

/-- What an operation that only reads gives. -/
def rd (P : Program) (tm : Nat → Option V) (h : H) (o : Oper) : Option V :=
  match o.op with
  | .move x => ev tm x
  | .pick c a b => match ev tm c with
    | some (.bool true) => ev tm a
    | some (.bool false) => ev tm b
    | _ => none
  | .build t parts => match evParts tm parts.toList with
    | some ps => buildV P t ps
    | none => none
  | .load t a => match ev tm a with
    | some (.ptr b off) => loadT P h t b off
    | _ => none
  | .nilCheck x => match ev tm x with
    | some (.ptr b off) => some (.ptr b off)
    | some (.fn f x y) => some (.fn f x y)
    | some (.iface t v) => some (.iface t v)
    | _ => none
  | .binOp op t x y _ => match ev tm x with
    | some a => match ev tm y with
      | some b => binV P op t x y a b
      | none => none
    | none => none
  | .unOp op _ x => match op, ev tm x with
    | .neg, some (.int k n) => some (.int k (wrapF k (Int.sub (.ofNat 0) n)))
    | .xor, some (.int k n) => some (.int k (adj k (Nat.xor (Nat.sub (modK k) 1) (toU k n))))
    | .not, some (.bool b) => some (.bool (!b))
    | _, _ => none
  | .convert src dst x => match ev tm x with
    | some v => convV P h src dst v
    | none => none
  | .makeInterface t x => match P.underlying t with
    | some (.interface _) => none
    | some _ => match ev tm x with
      | some v => some (.iface t v)
      | none => none
    | none => none
  | .makeFunc (.func f) first cap => match evs tm first.toList with
    | some a => match evs tm cap.toList with
      | some b => some (.fn f a b)
      | none => none
    | none => none
  | .fieldAddr t x f => match ev tm x with
    | some (.ptr b off) => match fieldI P t f with
      | some (o, _ + 1, _) => some (.ptr b (Nat.add off o))
      | _ => none
    | _ => none
  | .field t x f => match ev tm x with
    | some (.agg cs) => match fieldI P t f with
      | some (o, n, g) => part g cs o n
      | none => none
    | _ => none
  | .indexAddr t x i => match ev tm i with
    | some (.int _ (.ofNat i)) => match ev tm x with
      | some (.sl b off len _) => match sliceElem P t with
        | some (_, esz, _) => match Nat.ble (Nat.succ i) len with
          | true => some (.ptr b (Nat.add off (Nat.mul i esz)))
          | false => none
        | none => none
      | some (.ptr b off) => match P.underlying t with
        | some (.array n elem) => match tyI P elem with
          | some (_, esz) => match Nat.ble (Nat.succ i) n with
            | true => some (.ptr b (Nat.add off (Nat.mul i esz)))
            | false => none
          | none => none
        | _ => none
      | _ => none
    | _ => none
  | .index t x i => match ev tm i with
    | some (.int _ (.ofNat i)) => match ev tm x with
      | some (.str s) => match P.underlying t with
        | some .string => match s[i]? with
          | some b => some (.int .u8 (.ofNat b))
          | none => none
        | _ => none
      | some (.agg cs) => match P.underlying t with
        | some (.array n elem) => match tyI P elem with
          | some (g, esz) => match Nat.ble (Nat.succ i) n with
            | true => part g cs (Nat.mul i esz) esz
            | false => none
          | none => none
        | _ => none
      | _ => none
    | _ => none
  | .lookup t x i ok => match ev tm x with
    | some m => match ev tm i with
      | some key => lookV P h t m key ok
      | none => none
    | none => none
  | .typeAssert x _ at_ ok => match ev tm x with
    | some v => assertV P v at_ ok
    | none => none
  | .extract x i => match ev tm x with
    | some (.tup vs) => vs[i]?
    | _ => none
  | .slice t x lo hi mx => match ev tm x with
    | some v => sliceAtV P tm h t v lo hi mx
    | none => none
  | .entry it => match ev tm it with
    | some v => entryV h v
    | none => none
  | .call c => match c.callee with
    | .builtin .len => match c.args.toList, c.argTypes.toList with
      | x :: _, t :: _ => match ev tm x with
        | some v => lenV P h t v
        | none => none
      | _, _ => none
    | .builtin .cap => match c.args.toList, c.argTypes.toList with
      | x :: _, t :: _ => match P.underlying t, ev tm x with
        | some (.slice _), some (.sl _ _ _ (.exact n)) => some (.int .i64 (.ofNat n))
        | some (.slice _), some .nils => some (.int .i64 (.ofNat 0))
        | _, _ => none
      | _, _ => none
    | .builtin .min => match evs tm c.args.toList with
      | some (x :: l) => minsV false x l
      | _ => none
    | .builtin .max => match evs tm c.args.toList with
      | some (x :: l) => minsV true x l
      | _ => none
    | _ => none
  | _ => none
/-- Does an operation only read? -/
def reads (P : Program) (o : Oper) : Bool :=
  match o.op with
  | .move _ => true
  | .pick _ _ _ => true
  | .build _ _ => true
  | .load _ _ => true
  | .nilCheck _ => true
  | .binOp _ _ _ _ _ => true
  | .unOp _ _ _ => true
  | .convert _ dst _ => match P.underlying dst with
    | some (.slice _) => false
    | _ => true
  | .makeInterface _ _ => true
  | .makeFunc _ _ _ => true
  | .fieldAddr _ _ _ => true
  | .field _ _ _ => true
  | .indexAddr _ _ _ => true
  | .index _ _ _ => true
  | .lookup _ _ _ _ => true
  | .typeAssert _ _ _ _ => true
  | .extract _ _ => true
  | .slice _ _ _ _ _ => true
  | .entry _ => true
  | .call c => match c.callee with
    | .builtin .len => true
    | .builtin .cap => true
    | .builtin .min => true
    | .builtin .max => true
    | _ => false
  | _ => false

/-- Does an operation lay a block and nothing else? -/
def lays (o : Oper) : Bool :=
  match o.op with
  | .alloc _ => true
  | .box _ _ => true
  | .buildSlice _ _ _ => true
  | .makeSlice _ _ _ => true
  | .makeMap _ none => true
  | _ => false

-- what acts
def elemsOf (h : H) (esz : Nat) (x : V) : Option (List V × Nat) :=
  match x with
  | .nils => some ([], 0)
  | .emp _ _ _ => some ([], 0)
  | .sl b off n _ => match loadN h b off (Nat.mul n esz) with
    | some l => some (l, n)
    | none => none
  | .str s => match esz with
    | 1 => some (s.map fun b => .int .u8 (.ofNat b), s.length)
    | _ => none
  | _ => none
def small (n : Nat) : Bool := Nat.ble n 100000000
def bytesT (P : Program) (t : Nat) : Option Nat :=
  match P.info? t with
  | some i => some i.bytes
  | none => none
/-- The block of a slice that was appended to falls away: whether its cells were written on or copied is left open. -/
def growK {β : Type} (h : H) (b elem : Nat) (vs : List V) (n : Nat) (k : V → H → β) : β :=
  T.setK .dead h.t b fun ht => newK ⟨ht, h.nx⟩ elem true vs fun c h => natK n fun n => k (.sl c 0 n (.upto 0)) h
/-- The same where all of the block is the slice's: what is known of it stays, the new cells come behind. -/
def grow2K {β : Type} (h : H) (b elem esz len : Nat) (z : List V) (t : T V) (vs : List V) (n : Nat) (k : V → H → β) : β :=
  T.setK .dead h.t b fun ht => natK (Nat.mul len esz) fun o => setsK vs t o fun t => natK (Nat.mul (Nat.add len n) esz) fun size => natK h.nx fun nx =>
    T.setK (.cells elem true true size z t) ht nx fun ht => natK (Nat.add len n) fun m => k (.sl nx 0 m (.upto 0)) ⟨ht, Nat.succ nx⟩
def freshK {β : Type} (h : H) (elem : Nat) (vs : List V) (n : Nat) (k : V → H → β) : β :=
  newK h elem true vs fun c h => natK n fun n => k (.sl c 0 n (.upto 0)) h
def zeroOk (P : Program) (t esz : Nat) : Bool :=
  match zeroV P t with
  | some z => Nat.beq z.cells.length esz
  | none => false
def appendK {β : Type} (P : Program) (h : H) (t : Nat) (s x : V) (none' : β) (k : V → H → β) : β :=
  match sliceElem P t with
  | none => none'
  | some (elem, esz, _) => match bytesT P elem with
    | none => none'
    | some by_ => match zeroOk P elem esz && Nat.ble 1 esz with
      | false => none'
      | true => match elemsOf h esz x with
        | none => none'
        | some (new, n) => match s with
            | .nils => match n with
              | 0 => k .nils h
              | Nat.succ _ => match small (Nat.mul n (Nat.succ by_)) with
                | false => none'
                | true => nfsK new fun new => freshK h elem new n k
            | .sl b off len cap => match small (Nat.mul (Nat.add len n) (Nat.succ by_)) with
              | false => none'
              | true => match cap with
                | .exact c => match Nat.ble (Nat.add len n) c with
                  | true => nfsK new fun new => storeK h b (Nat.add off (Nat.mul len esz)) new none' fun h => natK (Nat.add len n) fun m => k (.sl b off m (.exact c)) h
                  | false => match loadN h b off (Nat.mul len esz) with
                    | none => none'
                    | some old => nfsK new fun new => freshK h elem (old ++ new) (Nat.add len n) k
                | .upto j => match known P h b off esz j with
                  | none => none'
                  | some kn => match Nat.ble (Nat.add len n) kn with
                    | true => nfsK new fun new => storeK h b (Nat.add off (Nat.mul len esz)) new none' fun h => natK (Nat.add len n) fun m => k (.sl b off m (.upto j)) h
                    | false => match h.t.get b with
                      | some (.cells e true true size z t) => match Nat.beq e elem && ones new with
                        | true => match Nat.beq off 0 && (Nat.beq j 0 && Nat.beq size (Nat.mul len esz)) with
                          | true => nfsK new fun new => grow2K h b elem esz len z t new n k
                          | false => match loadN h b off (Nat.mul len esz) with
                            | none => none'
                            | some old => nfsK new fun new => growK h b elem (old ++ new) (Nat.add len n) k
                        | false => none'
                      | _ => none'
            | .emp b off j => match n with
              | 0 => none'
              | Nat.succ _ => match small (Nat.mul n (Nat.succ by_)) with
                | false => none'
                | true => match h.t.get b with
                  | some (.cells e true true size _ _) => match Nat.beq e elem && (ones new && (Nat.beq off (Nat.mul j esz) && Nat.ble off size)) with
                    | true => nfsK new fun new => growK h b elem new n k
                    | false => none'
                  | _ => none'
            | _ => none'
def copyK {β : Type} (P : Program) (h : H) (t : Nat) (d s : V) (none' : β) (k : V → H → β) : β :=
  match sliceElem P t with
  | none => none'
  | some (_, esz, _) => match d with
    | .nils => match elemsOf h esz s with
      | some _ => k (.int .i64 (.ofNat 0)) h
      | none => none'
    | .emp _ _ _ => match elemsOf h esz s with
      | some _ => k (.int .i64 (.ofNat 0)) h
      | none => none'
    | .sl b off len _ => match elemsOf h esz s with
      | none => none'
      | some (l, n) => natK (Nat.min n len) fun m => nfsK (l.take (Nat.mul m esz)) fun l => storeK h b off l none' fun h => k (.int .i64 (.ofNat m)) h
    | _ => none'
def clearK {β : Type} (P : Program) (h : H) (t : Nat) (s : V) (none' : β) (kv : V → H → β) : β :=
  match sliceElem P t with
  | some (elem, esz, _) => match s with
    | .nils => kv (.tup []) h
    | .emp _ _ _ => kv (.tup []) h
    | .sl _ _ 0 _ => kv (.tup []) h
    | .sl b off (n + 1) _ => match zeroV P elem with
      | some z => match Nat.beq z.cells.length esz && (Nat.ble 1 esz && Nat.ble (Nat.mul (Nat.succ n) esz) 65536) with
        | true => nfsK (repl z.cells (Nat.succ n) []) fun vs => storeK h b off vs none' fun h => kv (.tup []) h
        | false => none'
      | none => none'
    | _ => none'
  | none => none'
def dataK {β : Type} (P : Program) (h : H) (t : Nat) (s : V) (none' : β) (kv : V → H → β) : β :=
  match s with
  | .nils => kv .nilp h
  | .sl b off _ (.exact (_ + 1)) => kv (.ptr b off) h
  | .sl b off _ (.upto j) => match sliceElem P t with
    | some (_, esz, _) => match known P h b off esz j with
      | some (_ + 1) => kv (.ptr b off) h
      | _ => none'
    | none => none'
  | _ => none'
def ustrK {β : Type} (P : Program) (h : H) (t : Nat) (p n : V) (none' : β) (kv : V → H → β) : β :=
  match n with
  | .int .i64 (.ofNat n) => match n with
    | 0 => match p with
      | .nilp => kv (.str []) h
      | _ => none'
    | m + 1 => match p with
      | .ptr b off => match loadN h b off (Nat.succ m) with
        | some l => match bytesOf l with
          | some bs => match h.t.get b with
            | some (.cells e true opn size z tt) => match P.underlying t with
              | some (.pointer u) => match Nat.beq u e && (Nat.beq (P.cellsOf e) 1 && small (Nat.succ m)) with
                | true => T.setK (.cells e false opn size z tt) h.t b fun ht => natsK bs fun bs => kv (.str bs) ⟨ht, h.nx⟩
                | false => none'
              | _ => none'
            | _ => none'
          | none => none'
        | none => none'
      | _ => none'
  | _ => none'
def fnI (P : Program) (f : Nat) : Option (Nat × Code) :=
  match P.funcs[f]? with
  | some fn => match fn.body with
    | some c => match fn.name == "runtime.NumGoroutine" with
      | true => none
      | false => some (fn.ntmps, c)
    | none => none
  | none => none
-- functions without a body, that the model gives
inductive Ext where
  | typeOf
  | comparable
  | indexByte
  | same
def extOf (n : String) : Option Ext :=
  match n == "internal/reflectlite.TypeOf" with
  | true => some .typeOf
  | false => match n == "(internal/reflectlite.rtype).Comparable" with
    | true => some .comparable
    | false => match n == "internal/bytealg.IndexByteString" with
      | true => some .indexByte
      | false => match n == "internal/abi.NoEscape" with
        | true => some .same
        | false => none
def idxOf (c : Nat) : List Nat → Nat → Option Nat
  | [], _ => none
  | a :: l, i => match Nat.beq a c with
    | true => some i
    | false => idxOf c l (Nat.succ i)
def extE (P : Program) (e : Ext) (args : List V) : Option V :=
  match e, args with
  | .typeOf, [.nilIface] => some .nilIface
  | .typeOf, [.iface t _] => match Nat.ble (Nat.succ P.globals.size) 500 with
    | true => match P.cutTypes.find? (·.1 == "internal/reflectlite.rtype") with
      | some c => some (.iface c.2 (.agg [.ptr P.globals.size t]))
      | none => none
    | false => none
  | .comparable, [.agg [.ptr g t]] => match Nat.ble (Nat.succ g) 500 && (Nat.beq g P.globals.size && (!P.packed t && !P.holdsPacked P.depth t)) with
    | true => match P.info? t with
      | some i => some (.bool i.comparable)
      | none => none
    | false => none
  | .indexByte, [.str s, .int .u8 (.ofNat c)] => match Nat.ble (Nat.succ c) 256 with
    | true => some (.int .i64 (match idxOf c s 0 with | some i => .ofNat i | none => .negSucc 0))
    | false => none
  | .same, [v] => some v
  | _, _ => none
def extV (P : Program) (f : Nat) (args : List V) : Option V :=
  match P.funcs[f]? with
  | none => none
  | some fn => match fn.body with
    | some _ => none
    | none => match fn.name == "runtime.NumGoroutine" with
      | true => none
      | false => match Extern.findNext fn with
        | some _ => none
        | none => match extOf fn.name with
          | none => none
          | some e => extE P e args
def extH (P : Program) (f : Nat) (args : List V) (h : H) : Option (V × H) :=
  match extV P f args with
  | some v => some (v, h)
  | none => match P.funcs[f]? with
    | some fn => match fn.body with
      | some _ => none
      | none => match Extern.findNext fn with
        | some _ => none
        | none => match fn.name == "internal/bytealg.MakeNoZero" with
          | true => match args with
            | [.int .i64 (.ofNat n)] => match fn.resultTypes[0]? with
              | some t => match sliceElem P t with
                | some (elem, 1, _) => match small n with
                  | true => newObjK h (.cells elem true true n [.unk] .e) fun b h => some (.sl b 0 n (.upto 0), h)
                  | false => none
                | _ => none
              | none => none
            | _ => none
          | false => none
    | none => none
/-- The function behind a method called through an interface value. -/
def methI (P : Program) (t : Nat) (name : String) : Option (Nat × Option Nat) :=
  match P.info? t with
  | none => none
  | some i => match i.methods.find? (·.name == name) with
    | none => none
    | some m => match m.path.isEmpty, m.func with
      | true, some (f, pr) => match P.underlying t, pr with
        | some (.pointer _), true => some (f, none)
        | some (.pointer e), false => some (f, some e)
        | some _, false => some (f, none)
        | _, _ => none
      | _, _ => none

/-- An operation that acts: a value and the memory behind it, a call, or a call put off. -/
def actK {β : Type} (P : Program) (tm : Nat → Option V) (h : H) (o : Oper) (none' : β) (kv : V → H → β) (kc : Nat → List V → β) (kr : Nat → List V → β) (kd : AD → β) (kn : β) : β :=
  match o.op with
  | .assign x => match ev tm x with
    | some v => kv v h
    | none => none'
  | .store t a x => match ev tm a with
    | some (.ptr b off) => match ev tm x with
      | some v => match v.cellsO with
        | none => none'
        | some vc => match tyI P t with
          | some (_, n) => match Nat.beq vc.length n with
            | true => nfsK vc fun vs => storeK h b off vs none' fun h => kv (.tup []) h
            | false => none'
          | none => none'
      | none => none'
    | _ => none'
  | .alloc t => match zeroV P t with
    | some z => nfsK z.cells fun vs => newK h t false vs fun c h => kv (.ptr c 0) h
    | none => none'
  | .box t x => match ev tm x with
    | some v => match v.cellsO with
      | none => none'
      | some vc => nfsK vc fun vs => newK h t false vs fun c h => kv (.ptr c 0) h
    | none => none'
  | .buildSlice t len parts => match sliceElem P t with
    | some (elem, esz, _) => match evParts tm parts.toList with
      | some ps => match esz with
        | 0 => none'
        | Nat.succ _ => match zeroV P elem with
          | some z => match Nat.beq z.cells.length esz with
            | false => none'
            | true => match Nat.ble (Nat.mul len esz) 16777216 with
              | true => match fillL (fun i => some (Nat.mul i esz, esz)) (repl z.cells len []) ps with
                | some l => nfsK l fun vs => newK h elem false vs fun c h => natK len fun len => kv (.sl c 0 len (.exact len)) h
                | none => none'
              | false => none'
          | none => none'
      | none => none'
    | none => none'
  | .makeSlice t l c => match ev tm l with
    | some (.int _ (.ofNat l)) => match ev tm c with
      | some (.int _ (.ofNat c)) => match sliceElem P t with
        | some (elem, esz, _) => match esz with
          | 0 => none'
          | Nat.succ _ => match zeroV P elem with
            | some z => match bytesT P elem with
              | some by_ => match Nat.beq z.cells.length esz with
                | false => none'
                | true => match Nat.ble l c with
                  | false => none'
                  | true => match small (Nat.mul (Nat.succ c) (Nat.succ by_)) with
                    | false => none'
                    | true => nfsK z.cells fun zs => natK l fun l => natK c fun c => natK (Nat.mul c esz) fun m => newObjK h (.cells elem true false m zs .e) fun b h => kv (.sl b 0 l (.exact c)) h
              | none => none'
            | none => none'
        | none => none'
      | _ => none'
    | _ => none'
  | .makeMap t r => match r with
    | none => newObjK h (.map [] 0) fun b h => kv (.map b) h
    | some x => match ev tm x, P.underlying t with
      | some (.int _ _), some (.map _ _) => newObjK h (.map [] 0) fun b h => kv (.map b) h
      | _, _ => none'
  | .mapUpdate t m key x | .insert t m key x => match P.underlying t with
    | some (.map kt _) => match ev tm m with
      | some (.map b) => match ev tm key with
        | some key => match plainKey P kt key with
          | false => none'
          | true => match ev tm x with
            | some v => match h.t.get b with
              | some (.map es clock) => match kfind key es 0 with
                | some (some (i, _)) => nfK v fun v => T.setK (.map (mset es i key v) clock) h.t b fun ht => kv (.tup []) ⟨ht, h.nx⟩
                | some none => nfK v fun v => natK clock fun clock => T.setK (.map (es ++ [(key, v, clock)]) (Nat.succ clock)) h.t b fun ht => kv (.tup []) ⟨ht, h.nx⟩
                | none => none'
              | _ => none'
            | none => none'
        | none => none'
      | _ => none'
    | _ => none'
  | .range t x => match P.underlying t with
    | some (.map _ _) => match ev tm x with
      | some .nilm => newObjK h (.mapIter none 0 [] 0) fun b h => kv (.ptr b 0) h
      | some (.map m) => match h.t.get m with
        | some (.map _ clock) => newObjK h (.mapIter (some m) clock [] clock) fun b h => kv (.ptr b 0) h
        | _ => none'
      | _ => none'
    | some .string => match ev tm x with
      | some (.str s) => newObjK h (.strIter s 0) fun b h => kv (.ptr b 0) h
      | _ => none'
    | _ => none'
  | .next it isStr => match ev tm it with
    | some (.ptr r 0) => match h.t.get r with
      | some (.strIter s pos) => match isStr with
        | false => none'
        | true => match s.drop pos with
          | [] => kv (.tup [.bool false]) h
          | c :: _ => match Nat.ble (Nat.succ c) 128 with
            | true => natK (Nat.succ pos) fun p1 => T.setK (.strIter s p1) h.t r fun ht => nfK (.tup [.bool true, .int .i64 (.ofNat pos), .int .i32 (.ofNat c)]) fun v => kv v ⟨ht, h.nx⟩
            | false => none'
      | some (.mapIter none _ _ _) => match isStr with
        | false => kv (.tup [.bool false]) h
        | true => none'
      | some (.mapIter (some m) since seen last) => match isStr with
        | true => none'
        | false => match h.t.get m with
          | some (.map es clock) =>
            match !seen.isEmpty && !es.isEmpty && es.all (fun e => Nat.ble last e.2.2) with
            | true => none'
            | false => match es.filter (fun e => !seen.contains e.2.2) with
              | [] => kv (.tup [.bool false]) h
              | [e] => match Nat.ble (Nat.succ e.2.2) since with
                | true => nfK e.1 fun key => nfK e.2.1 fun val => T.setK (.mapIter (some m) since (seen ++ [e.2.2]) clock) h.t r fun ht => kv (.tup [.bool true, key, val]) ⟨ht, h.nx⟩
                | false => none'
              | e :: _ => match seen with
                | [] => match uniform e.2.1 since es && nodupN (stampsOf es) with
                  | true => natsK (stampsOf es) fun st => nfK e.2.1 fun val => T.setK (.mapIterU m since st 1 clock) h.t r fun ht => kv (.tup [.bool true, .unk, val]) ⟨ht, h.nx⟩
                  | false => none'
                | _ => none'
          | _ => none'
      | some (.mapIterU m since st cnt last) => match isStr with
        | true => none'
        | false => match h.t.get m with
          | some (.map es clock) => match leqL (stampsOf es) st && !(!es.isEmpty && es.all (fun e => Nat.ble last e.2.2)) with
            | false => none'
            | true => match Nat.beq cnt st.length with
              | true => kv (.tup [.bool false]) h
              | false => match es with
                | [] => none'
                | e :: _ => match uniform e.2.1 since es with
                  | true => natK (Nat.succ cnt) fun cnt => nfK e.2.1 fun val => T.setK (.mapIterU m since st cnt clock) h.t r fun ht => kv (.tup [.bool true, .unk, val]) ⟨ht, h.nx⟩
                  | false => none'
          | _ => none'
      | _ => none'
    | _ => none'
  | .convert src dst x => match ev tm x with
    | some (.str s) => match P.underlying src, sliceElem P dst with
      | some .string, some (elem, esz, false) => match P.underlying elem, esz with
        | some (.int .u8), 1 => match small s.length with
          | true => natsK s fun s => freshK h elem (s.map fun b => .int .u8 (.ofNat b)) s.length kv
          | false => none'
        | _, _ => none'
      | _, _ => none'
    | _ => none'
  | .defer c => match c.callee with
    | .value f => match ev tm f with
      | some (.fn f first cap) => match evs tm c.args.toList with
        | some args => kd (.call f (first ++ args ++ cap))
        | none => none'
      | _ => none'
    | _ => none'
  | .call c => match c.callee with
    | .value f => match ev tm f with
      | some (.fn f first cap) => match evs tm c.args.toList with
        | some args => kc f (first ++ args ++ cap)
        | none => none'
      | some (.yld l) => match evs tm c.args.toList with
        | some args => kr l args
        | none => none'
      | _ => none'
    | .invoke r name => match ev tm r with
      | some (.iface t v) => match methI P t name with
        | some (f, none) => match evs tm c.args.toList with
          | some args => kc f (v :: args)
          | none => none'
        | some (f, some e) => match v with
          | .ptr b off => match loadT P h e b off with
            | some x => match evs tm c.args.toList with
              | some args => kc f (x :: args)
              | none => none'
            | none => none'
          | _ => none'
        | none => none'
      | _ => none'
    | .builtin .append => match evs tm c.args.toList, c.argTypes.toList with
      | some [s, x], [t, u] => match P.underlying u with
        | some (.int _) => none'
        | some _ => appendK P h t s x none' kv
        | none => none'
      | _, _ => none'
    | .builtin .copy => match evs tm c.args.toList, c.argTypes.toList with
      | some [d, s], t :: _ => copyK P h t d s none' kv
      | _, _ => none'
    | .builtin .delete => match evs tm c.args.toList, c.argTypes.toList with
      | some [m, key], t :: _ => match P.underlying t with
        | some (.map kt _) => match plainKey P kt key with
          | false => none'
          | true => match m with
            | .nilm => kv (.tup []) h
            | .map b => match h.t.get b with
              | some (.map es clock) => match kfind key es 0 with
                | some (some (i, _)) => T.setK (.map (es.eraseIdx i) clock) h.t b fun ht => kv (.tup []) ⟨ht, h.nx⟩
                | some none => kv (.tup []) h
                | none => none'
              | _ => none'
            | _ => none'
        | _ => none'
      | _, _ => none'
    | .builtin .clear => match evs tm c.args.toList, c.argTypes.toList with
      | some [s], t :: _ => clearK P h t s none' kv
      | _, _ => none'
    | .builtin .unsafeSliceData => match evs tm c.args.toList, c.argTypes.toList with
      | some [s], t :: _ => dataK P h t s none' kv
      | _, _ => none'
    | .builtin .unsafeString => match evs tm c.args.toList, c.argTypes.toList with
      | some [p, n], t :: _ => ustrK P h t p n none' kv
      | _, _ => none'
    | .builtin .recover => kn
    | _ => none'
  | _ => none'

-- frames
def putK {β : Type} (tm : T V) (n : Nat) (dst : Option Tmp) (v : V) (none' : β) (k : T V → β) : β :=
  match dst with
  | none => k tm
  | some d => match Nat.ble (Nat.succ d) n with
    | true => T.setK v tm d k
    | false => none'
def wantedA (ops : Array Oper) (tm : Nat → Option V) (o : Oper) : Option Bool :=
  match o.guard with
  | none => some true
  | some (j, want) => match ops[j]? with
    | none => some false
    | some oj => match oj.dst with
      | none => some false
      | some d => match tm d with
        | some (.bool b) => some (match b, want with | true, true => true | false, false => true | _, _ => false)
        | some .unk => none
        | some _ => some false
        | none => none
def exitA (id : Nat) : List AI → Option (List AI)
  | .inBlock id' :: k => match Nat.beq id' id with | true => some k | false => exitA id k
  | _ :: k => exitA id k
  | [] => none
def gotoA (l : Nat) : List AI → Option (List AI)
  | .inScope body :: k => match findLabel body l with
    | some rest => some (.code rest :: .inScope body :: k)
    | none => gotoA l k
  | _ :: k => gotoA l k
  | [] => none
/-- Does an operation give now what it gave? -/
def same1 (P : Program) (ops : Array Oper) (tm : T V) (h : H) (o : Oper) : Bool :=
  match wantedA ops tm.get o with
  | none => false
  | some false => match o.dst with
    | none => true
    | some d => match tm.get d with
      | some (.tup []) => true
      | _ => false
  | some true => match rd P tm.get h o with
    | none => false
    | some v => match o.dst with
      | none => true
      | some d => match tm.get d with
        | none => false
        | some u => beqV v u
def recheck (P : Program) (ops : Array Oper) (tm : T V) (h : H) : List Oper → Bool
  | [] => true
  | o :: l => match same1 P ops tm h o with
    | true => recheck P ops tm h l
    | false => false
def enterF (f n : Nat) (c : Code) (tm : T V) (dk : Bool) : AF := ⟨f, n, tm, [.code c], [], false, dk, none⟩
/-- A value comes back to a frame. -/
def finishK {β : Type} (P : Program) (a : AF) (h : H) (v : V) (none' : β) (k : AF → β) : β :=
  match a with
  | ⟨fn, n, tm, todo, dfs, ret, dk, rnd⟩ => match todo with
    | .reg ops (o :: rest) :: td => putK tm n o.dst v none' fun tm => k ⟨fn, n, tm, .reg ops rest :: td, dfs, ret, dk, rnd⟩
    | .dreg ops (.act o rc :: plan) :: td => putK tm n o.dst v none' fun tm => match recheck P ops tm h rc with
      | true => k ⟨fn, n, tm, .dreg ops plan :: td, dfs, ret, dk, rnd⟩
      | false => none'
    | .inRF l :: td => k ⟨fn, n, tm, .endRF l :: td, dfs, ret, dk, rnd⟩
    | _ => none'
def callN (f n : Nat) (c : Code) (args : List V) (dk : Bool) (rest : List AF) (h : H) : Option S :=
  match Nat.ble args.length n with
  | false => none
  | true => setsK args .e 0 fun tm => some ⟨enterF f n c tm dk, rest, h⟩
def callK (P : Program) (f : Nat) (args : List V) (dk : Bool) (rest : List AF) (h : H) : Option S :=
  match fnI P f with
  | none => none
  | some (n, c) => callN f n c args dk rest h
def paramsK {β : Type} (n : Nat) : List Tmp → List V → T V → β → (T V → β) → β
  | [], [], tm, _, k => k tm
  | p :: ps, v :: vs, tm, no, k => putK tm n (some p) v no fun tm => paramsK n ps vs tm no k
  | _, _, _, no, _ => no
def roundK (l : Nat) (args : List V) (rest : List AF) (h : H) : Option S :=
  match h.t.get l with
  | some (.loop _ _ fn n tm params assign body _) => paramsK n params args tm none fun tm => some ⟨⟨fn, n, tm, [.code assign, .beginRound, .code body], [], false, false, some l⟩, rest, h⟩
  | _ => none
def resV (P : Program) (tm : T V) (h : H) : ResultVar → Option V
  | .tmp t => tm.get t
  | .cell a t => match tm.get a with
    | some (.ptr b off) => loadT P h t b off
    | _ => none
def resVs (P : Program) (tm : T V) (h : H) : List ResultVar → Option (List V)
  | [] => some []
  | r :: l => match resV P tm h r with
    | some v => match resVs P tm h l with
      | some l => some (v :: l)
      | none => none
    | none => none
def tupOf : List V → V
  | [v] => v
  | l => .tup l
def results (P : Program) (f : Nat) (tm : T V) (h : H) : Option V :=
  match P.funcs[f]? with
  | some fn => match resVs P tm h fn.results.toList with
    | some l => some (tupOf l)
    | none => none
  | none => none

-- plans
/-- Of each operation the ones ahead of it (as bits); none, if an operation waits for a later one. -/
def edgeBits (tr : List Nat) (n : Nat) : List Edge → Option Nat
  | [] => some 0
  | e :: l => match Region.binds .any e with
    | false => edgeBits tr n l
    | true => match Nat.ble (Nat.succ e.on) n with
      | false => none
      | true => match tr[e.on]? with
        | none => none
        | some t => match edgeBits tr n l with
          | none => none
          | some s => some (Nat.lor s (Nat.lor (Nat.shiftLeft 1 e.on) t))
def trOf : List Oper → List Nat → Nat → Option (List Nat)
  | [], tr, _ => some tr
  | o :: l, tr, n => match edgeBits tr n o.after.toList with
    | none => none
    | some s => trOf l (tr ++ [s]) (Nat.succ n)
def memN (a : Nat) (l : List Nat) : Bool := l.any (Nat.beq a)
def trAt (tr : List Nat) (i j : Nat) : Bool :=
  match tr[i]? with
  | some t => Nat.testBit t j
  | none => false
def looksD (ops : Array Oper) (o : Oper) (j : Nat) : Bool :=
  match ops[j]? with
  | none => true
  | some oj => match oj.dst with
    | none => false
    | some d => memN d (o.looksAt ops)
def PI.i : PI → Nat
  | .rd i => i
  | .al i => i
  | .act i _ => i
/-- The operation comes later, and its result is neither looked at nor written over by one that lays a block. -/
def apartD (ops : Array Oper) (o : Oper) (j : Nat) : Bool :=
  match ops[j]? with
  | none => true
  | some oj => match oj.dst with
    | none => true
    | some d => match o.dst with
      | none => true
      | some e => !Nat.beq d e
def isRd (P : Program) (ops : Array Oper) (j : Nat) : Bool :=
  match ops[j]? with
  | none => false
  | some oj => reads P oj
/-- Is this a plan that every order goes by? -/
def chk (P : Program) (ops : Array Oper) (tr : List Nat) : List PI → (ex pot : List Nat) → Bool
  | [], ex, _ => (List.range ops.size).all fun i => memN i ex
  | .rd i :: l, ex, pot => match ops[i]? with
    | none => false
    | some o => !memN i ex && (reads P o && ((pot.all fun j => !looksD ops o j || trAt tr i j) && (!looksD ops o i && ((pot.all fun j => match ops[j]? with | some oj => !looksD ops oj i | none => false) && chk P ops tr l (i :: ex) (pot ++ [i])))))
  | .al i :: l, ex, pot => match ops[i]? with
    | none => false
    | some o => !memN i ex && (lays o && ((pot.all fun j => !looksD ops o j || trAt tr i j) && (!looksD ops o i && ((pot.all fun j => match ops[j]? with | some oj => !looksD ops oj i | none => false) && ((l.all fun p => !looksD ops o p.i && apartD ops o p.i) && chk P ops tr l (i :: ex) (pot ++ [i]))))))
  | .act i rc :: l, ex, pot => match ops[i]? with
    | none => false
    | some o => !memN i ex && ((l.all fun p => trAt tr p.i i) && ((pot.all fun j => memN j rc || trAt tr i j) && ((rc.all fun j => memN j pot && !looksD ops o j) && chk P ops tr l (i :: ex) rc)))
def opersOf (ops : Array Oper) : List Nat → Option (List Oper)
  | [] => some []
  | i :: l => match ops[i]? with
    | none => none
    | some o => match opersOf ops l with
      | none => none
      | some m => some (o :: m)
def mkPS (P : Program) (ops : Array Oper) : List PI → (pot : List Nat) → Option (List PS)
  | [], _ => some []
  | .rd i :: l, pot => match ops[i]? with
    | none => none
    | some o => match opersOf ops ((pot ++ [i]).filter (isRd P ops)) with
      | none => none
      | some rc => match mkPS P ops l (pot ++ [i]) with
        | none => none
        | some m => some (.rd o rc :: m)
  | .al i :: l, pot => match ops[i]? with
    | none => none
    | some o => match opersOf ops ((pot ++ [i]).filter (isRd P ops)) with
      | none => none
      | some rc => match mkPS P ops l (pot ++ [i]) with
        | none => none
        | some m => some (.al o rc :: m)
  | .act i rc :: l, _ => match ops[i]? with
    | none => none
    | some o => match opersOf ops (rc.filter (isRd P ops)) with
      | none => none
      | some rs => match mkPS P ops l rc with
        | none => none
        | some m => some (.act o rs :: m)
def soft (P : Program) (o : Oper) : Bool := reads P o || lays o
def stepOf (P : Program) (ops : Array Oper) (i : Nat) : PI :=
  match isRd P ops i with
  | true => .rd i
  | false => .al i
/-- A plan (it is held against the order by chk): first what only reads or lays a block and hangs on no operation that acts and is still to come; then the next that acts; and so on. -/
def planGo (P : Program) (ops : Array Oper) (tr : List Nat) : Nat → (l : List Nat) → (acts : Nat) → (pot : List Nat) → Option (List PI)
  | 0, _, _, _ => none
  | f + 1, l, acts, pot =>
    let isNow (i : Nat) : Bool := match ops[i]?, tr[i]? with
      | some o, some t => soft P o && Nat.beq (Nat.land t acts) 0
      | _, _ => false
    let now := l.filter isNow
    match l.filter fun i => !isNow i with
    | [] => some (now.map (stepOf P ops))
    | e :: more => match tr[e]? with
      | none => none
      | some t =>
        let rc := (pot ++ now).filter fun i => !Nat.testBit t i
        match planGo P ops tr f more (Nat.sub acts (Nat.shiftLeft 1 e)) rc with
        | some r => some (now.map (stepOf P ops) ++ (.act e rc :: r))
        | none => none
def actBits (P : Program) : List Oper → Nat → Nat
  | [], _ => 0
  | o :: l, i => match soft P o with
    | true => actBits P l (Nat.succ i)
    | false => Nat.lor (Nat.shiftLeft 1 i) (actBits P l (Nat.succ i))
def planI (P : Program) (ops : Array Oper) : Option (List PI × List Nat) :=
  match trOf ops.toList [] 0 with
  | none => none
  | some tr => match planGo P ops tr (Nat.succ ops.size) (List.range ops.size) (actBits P ops.toList 0) [] with
    | none => none
    | some l => some (l, tr)
def planOf (P : Program) (ops : Array Oper) : Option (List PS) :=
  match P.follows .mixedOrders with
  | false => none
  | true => match planI P ops with
    | none => none
    | some (l, tr) => match chk P ops tr l [] [] with
      | false => none
      | true => mkPS P ops l []

/-- Nothing is to be recovered here. -/
def recOk (dk : Bool) (rnd : Option Nat) (rest : List AF) : Bool :=
  match rnd with
  | some _ => false
  | none => match dk with
    | false => true
    | true => match rest with
      | [] => false
      | _ :: _ => true
/-- One step. -/
def astep (P : Program) (s : S) : Option S :=
  match s with
  | ⟨⟨fn, n, tm, todo, dfs, ret, dk, rnd⟩, rest, h⟩ =>
    match ret with
    | true => match dfs with
      | .mark r :: dfs => match h.t.get r with
        | some .dfr => T.setK .dfrNone h.t r fun ht => some ⟨⟨fn, n, tm, todo, dfs, true, dk, rnd⟩, rest, ⟨ht, h.nx⟩⟩
        | _ => none
      | .call f args :: dfs => callK P f args true (⟨fn, n, tm, todo, dfs, true, dk, rnd⟩ :: rest) h
      | [] => match rest with
        | [] => none
        | c :: rest => match results P fn tm h with
          | none => none
          | some v => match dk with
            | true => match c.ret with
              | true => some ⟨c, rest, h⟩
              | false => none
            | false => match c.ret with
              | true => none
              | false => finishK P c h v none fun c => some ⟨c, rest, h⟩
    | false => match todo with
      | [] => match rnd with
        | none => some ⟨⟨fn, n, tm, todo, dfs, true, dk, rnd⟩, rest, h⟩
        | some l => leave dk l none rest h
      | .code c :: td => match c with
        | .ret => match rnd with
          | none => some ⟨⟨fn, n, tm, todo, dfs, true, dk, rnd⟩, rest, h⟩
          | some l => leave dk l (some .ret) rest h
        | .skip => some ⟨⟨fn, n, tm, td, dfs, false, dk, rnd⟩, rest, h⟩
        | .label _ => some ⟨⟨fn, n, tm, td, dfs, false, dk, rnd⟩, rest, h⟩
        | .seq a b => some ⟨⟨fn, n, tm, .code a :: .code b :: td, dfs, false, dk, rnd⟩, rest, h⟩
        | .cond x a b => match ev tm.get x with
          | some (.bool true) => some ⟨⟨fn, n, tm, .code a :: td, dfs, false, dk, rnd⟩, rest, h⟩
          | some (.bool false) => some ⟨⟨fn, n, tm, .code b :: td, dfs, false, dk, rnd⟩, rest, h⟩
          | _ => none
        | .block id b => some ⟨⟨fn, n, tm, .code b :: .inBlock id :: td, dfs, false, dk, rnd⟩, rest, h⟩
        | .loop b => some ⟨⟨fn, n, tm, .code b :: .inLoop b :: td, dfs, false, dk, rnd⟩, rest, h⟩
        | .scope b => some ⟨⟨fn, n, tm, .code b :: .inScope b :: td, dfs, false, dk, rnd⟩, rest, h⟩
        | .exit id => match exitA id td with
          | some td => some ⟨⟨fn, n, tm, td, dfs, false, dk, rnd⟩, rest, h⟩
          | none => match rnd with
            | none => none
            | some l => leave dk l (some (.exit id)) rest h
        | .goto l => match gotoA l td with
          | some td => some ⟨⟨fn, n, tm, td, dfs, false, dk, rnd⟩, rest, h⟩
          | none => match rnd with
            | none => none
            | some r => leave dk r (some (.goto l)) rest h
        | .region _ ops draw => match draw with
          | false => some ⟨⟨fn, n, tm, .reg ops ops.toList :: td, dfs, false, dk, rnd⟩, rest, h⟩
          | true => match planOf P ops with
            | some plan => some ⟨⟨fn, n, tm, .dreg ops plan :: td, dfs, false, dk, rnd⟩, rest, h⟩
            | none => none
        | .rangeFunc f params assign body => match rnd with
          | some _ => none
          | none => match ev tm.get f with
            | some (.fn g first cap) => newObjK h .dfr fun r h => newObjK h (.loop .ready none fn n tm params.toList assign body r) fun l h =>
                callK P g (first ++ .yld l :: cap) false (⟨fn, n, tm, .inRF l :: td, .mark r :: dfs, false, dk, none⟩ :: rest) h
            | _ => none
        | .refuse _ => none
      | .inBlock _ :: td => some ⟨⟨fn, n, tm, td, dfs, false, dk, rnd⟩, rest, h⟩
      | .inScope _ :: td => some ⟨⟨fn, n, tm, td, dfs, false, dk, rnd⟩, rest, h⟩
      | .inLoop b :: td => some ⟨⟨fn, n, tm, .code b :: .inLoop b :: td, dfs, false, dk, rnd⟩, rest, h⟩
      | .reg ops l :: td => match l with
        | [] => some ⟨⟨fn, n, tm, td, dfs, false, dk, rnd⟩, rest, h⟩
        | o :: l => match wantedA ops tm.get o with
          | none => none
          | some false => putK tm n o.dst (.tup []) none fun tm => some ⟨⟨fn, n, tm, .reg ops l :: td, dfs, false, dk, rnd⟩, rest, h⟩
          | some true => match reads P o with
            | true => match rd P tm.get h o with
              | none => none
              | some v => nfK v fun v => putK tm n o.dst v none fun tm => some ⟨⟨fn, n, tm, .reg ops l :: td, dfs, false, dk, rnd⟩, rest, h⟩
            | false => actK P tm.get h o none
                (fun v h => putK tm n o.dst v none fun tm => some ⟨⟨fn, n, tm, .reg ops l :: td, dfs, false, dk, rnd⟩, rest, h⟩)
                (fun f args => match fnI P f with
                  | none => match extH P f args h with
                    | none => none
                    | some (v, h) => nfK v fun v => putK tm n o.dst v none fun tm => some ⟨⟨fn, n, tm, .reg ops l :: td, dfs, false, dk, rnd⟩, rest, h⟩
                  | some (m, c) => callN f m c args false (⟨fn, n, tm, todo, dfs, false, dk, rnd⟩ :: rest) h)
                (fun r args => roundK r args (⟨fn, n, tm, todo, dfs, false, dk, rnd⟩ :: rest) h)
                (fun d => match rnd with
                  | none => putK tm n o.dst (.tup []) none fun tm => some ⟨⟨fn, n, tm, .reg ops l :: td, d :: dfs, false, dk, rnd⟩, rest, h⟩
                  | some _ => none)
                (match recOk dk rnd rest with
                  | true => putK tm n o.dst .nilIface none fun tm => some ⟨⟨fn, n, tm, .reg ops l :: td, dfs, false, dk, rnd⟩, rest, h⟩
                  | false => none)
      | .dreg ops plan :: td => match plan with
        | [] => some ⟨⟨fn, n, tm, td, dfs, false, dk, rnd⟩, rest, h⟩
        | .rd o rc :: plan => match wantedA ops tm.get o with
          | none => none
          | some false => putK tm n o.dst (.tup []) none fun tm => match recheck P ops tm h rc with
            | true => some ⟨⟨fn, n, tm, .dreg ops plan :: td, dfs, false, dk, rnd⟩, rest, h⟩
            | false => none
          | some true => match rd P tm.get h o with
            | none => none
            | some v => nfK v fun v => putK tm n o.dst v none fun tm => match recheck P ops tm h rc with
              | true => some ⟨⟨fn, n, tm, .dreg ops plan :: td, dfs, false, dk, rnd⟩, rest, h⟩
              | false => none
        | .al o rc :: plan => match wantedA ops tm.get o with
          | none => none
          | some false => putK tm n o.dst (.tup []) none fun tm => match recheck P ops tm h rc with
            | true => some ⟨⟨fn, n, tm, .dreg ops plan :: td, dfs, false, dk, rnd⟩, rest, h⟩
            | false => none
          | some true => actK P tm.get h o none
                (fun v h => putK tm n o.dst v none fun tm => match recheck P ops tm h rc with
                  | true => some ⟨⟨fn, n, tm, .dreg ops plan :: td, dfs, false, dk, rnd⟩, rest, h⟩
                  | false => none)
                (fun _ _ => none)
                (fun _ _ => none)
                (fun _ => none)
                none
        | .act o rc :: plan => match wantedA ops tm.get o with
          | none => none
          | some false => putK tm n o.dst (.tup []) none fun tm => match recheck P ops tm h rc with
            | true => some ⟨⟨fn, n, tm, .dreg ops plan :: td, dfs, false, dk, rnd⟩, rest, h⟩
            | false => none
          | some true => actK P tm.get h o none
                (fun v h => putK tm n o.dst v none fun tm => match recheck P ops tm h rc with
                  | true => some ⟨⟨fn, n, tm, .dreg ops plan :: td, dfs, false, dk, rnd⟩, rest, h⟩
                  | false => none)
                (fun f args => match fnI P f with
                  | none => match extH P f args h with
                    | none => none
                    | some (v, h) => nfK v fun v => putK tm n o.dst v none fun tm => match recheck P ops tm h rc with
                      | true => some ⟨⟨fn, n, tm, .dreg ops plan :: td, dfs, false, dk, rnd⟩, rest, h⟩
                      | false => none
                  | some (m, c) => callN f m c args false (⟨fn, n, tm, todo, dfs, false, dk, rnd⟩ :: rest) h)
                (fun r args => roundK r args (⟨fn, n, tm, todo, dfs, false, dk, rnd⟩ :: rest) h)
                (fun _ => none)
                none
      | .inRF _ :: _ => none
      | .endRF l :: td => match h.t.get l with
        | some (.loop st pending fn' n' tm' ps a b d) => match st with
          | .busy => none
          | _ => T.setK (.loop .exhausted pending fn' n' tm' ps a b d) h.t l fun ht => match pending with
            | none => some ⟨⟨fn, n, tm, td, dfs, false, dk, rnd⟩, rest, ⟨ht, h.nx⟩⟩
            | some c => some ⟨⟨fn, n, tm, .code c :: td, dfs, false, dk, rnd⟩, rest, ⟨ht, h.nx⟩⟩
        | _ => none
      | .beginRound :: td => match rnd with
        | none => none
        | some l => match h.t.get l with
          | some (.loop .ready pending fn' n' tm' ps a b d) => T.setK (.loop .busy pending fn' n' tm' ps a b d) h.t l fun ht => some ⟨⟨fn, n, tm, td, dfs, false, dk, rnd⟩, rest, ⟨ht, h.nx⟩⟩
          | _ => none
where
  leave (dk : Bool) (l : Nat) (jump : Option Code) (rest : List AF) (h : H) : Option S :=
    match dk with
    | true => none
    | false => match h.t.get l with
      | some (.loop _ _ fn' n' tm' ps a b d) =>
        T.setK (.loop (match jump with | none => .ready | some _ => .done) jump fn' n' tm' ps a b d) h.t l fun ht => match rest with
          | [] => none
          | c :: rest => match c.ret with
            | true => none
            | false => finishK P c ⟨ht, h.nx⟩ (.bool (match jump with | none => true | some _ => false)) none fun c => some ⟨c, rest, ⟨ht, h.nx⟩⟩
      | _ => none
/-- The entries that may come next, where a map's iterator stands at several. -/
def candsP (_ : Program) (s : S) : Option (List (V × V × Nat)) :=
  match s with
  | ⟨⟨_, _, tm, .reg ops (o :: _) :: _, _, false, _, _⟩, _, h⟩ => match wantedA ops tm.get o with
    | some true => match o.op with
      | .next it false => match ev tm.get it with
        | some (.ptr r 0) => match h.t.get r with
          | some (.mapIter (some m) since seen last) => match h.t.get m with
            | some (.map es _) => match !seen.isEmpty && !es.isEmpty && es.all (fun e => Nat.ble last e.2.2) with
              | true => none
              | false => match es.all (fun e => Nat.ble (Nat.succ e.2.2) since) with
                | false => none
                | true => match es.filter (fun e => !seen.contains e.2.2) with
                  | a :: b :: l => some (a :: b :: l)
                  | _ => none
            | _ => none
          | _ => none
        | _ => none
      | _ => none
    | _ => none
  | _ => none
/-- One of them comes. -/
def pickP (_ : Program) (s : S) (e : V × V × Nat) : Option S :=
  match s with
  | ⟨⟨fn, n, tm, .reg ops (o :: l) :: td, dfs, false, dk, rnd⟩, rest, h⟩ => match o.op with
      | .next it false => match ev tm.get it with
        | some (.ptr r 0) => match h.t.get r with
          | some (.mapIter (some m) since seen _) => match h.t.get m with
            | some (.map _ clock) => nfK e.1 fun key => nfK e.2.1 fun val => T.setK (.mapIter (some m) since (seen ++ [e.2.2]) clock) h.t r fun ht =>
                putK tm n o.dst (.tup [.bool true, key, val]) none fun tm => some ⟨⟨fn, n, tm, .reg ops l :: td, dfs, false, dk, rnd⟩, rest, ⟨ht, h.nx⟩⟩
            | _ => none
          | _ => none
        | _ => none
      | _ => none
  | _ => none
/-- The call that stands at the top. -/
def callI (s : S) : Option (Nat × List V) :=
  match s with
  | ⟨⟨_, _, tm, .reg ops (o :: _) :: _, _, false, _, _⟩, _, _⟩ => match wantedA ops tm.get o with
    | some true => match o.op with
      | .call ⟨.value x, args, _⟩ => match ev tm.get x with
        | some (.fn f first cap) => match evs tm.get args.toList with
          | some as => some (f, first ++ as ++ cap)
          | none => none
        | _ => none
      | _ => none
    | _ => none
  | _ => none
/-- What goes on behind it. -/
def retI (s : S) (v : V) (h' : H) : Option S :=
  match s with
  | ⟨⟨fn, n, tm, .reg ops (o :: l) :: td, dfs, false, dk, rnd⟩, rest, _⟩ => putK tm n o.dst v none fun tm => some ⟨⟨fn, n, tm, .reg ops l :: td, dfs, false, dk, rnd⟩, rest, h'⟩
  | _ => none
/-- errors.As at a pointer that is of the target's type. -/
def hookS (s : S) : Option S :=
  match callI s with
  | some (_, [.iface _ v, .iface _ (.ptr b off)]) => storeK s.h b off [v] none fun h => retI s (.bool true) h
  | _ => none
def arun (P : Program) (k : Nat) : S → Option S :=
  Nat.rec (motive := fun _ => S → Option S) (fun s => some s) (fun _ ih s => match astep P s with | some s => ih s | none => none) k
end
end Go.Ev
/- The step machine: its tries, what its values stand for. -/
namespace Go.Ev
open Go

noncomputable section
section tries
variable {α : Type}
def T.set (t : T α) (i : Nat) (x : α) : T α := T.setK x t i id

theorem natK_eq {β : Type} (n : Nat) (k : Nat → β) : natK n k = k n := by cases n <;> rfl
theorem intK_eq {β : Type} (i : Int) (k : Int → β) : intK i k = k i := by cases i <;> simp [intK, natK_eq]

theorem T.get_e (i : Nat) : (T.e : T α).get i = none := rfl
theorem T.get_n (v : Option α) (l r : T α) (i : Nat) : (T.n v l r).get i = match i with
    | 0 => v
    | i' + 1 => match Nat.beq (Nat.mod i' 2) 0 with
      | true => l.get (Nat.div i' 2)
      | false => r.get (Nat.div i' 2) := by
  cases i with
  | zero => rfl
  | succ i' =>
    show Bool.rec (motive := fun _ => Option α) (r.get (Nat.div i' 2)) (l.get (Nat.div i' 2)) (Nat.beq (Nat.mod i' 2) 0) = _
    dsimp only
    cases Nat.beq (Nat.mod i' 2) 0 <;> rfl
theorem T.singleK_succ {β : Type} (x : α) (f i : Nat) (k : T α → β) : T.singleK x (f + 1) i k = match i with
    | 0 => k (.n (some x) .e .e)
    | i' + 1 => match Nat.beq (Nat.mod i' 2) 0 with
      | true => T.singleK x f (Nat.div i' 2) (fun t => k (.n none t .e))
      | false => T.singleK x f (Nat.div i' 2) (fun t => k (.n none .e t)) := by
  cases i with
  | zero => rfl
  | succ i' =>
    show Bool.rec (motive := fun _ => β) (T.singleK x f (Nat.div i' 2) (fun t => k (.n none .e t))) (T.singleK x f (Nat.div i' 2) (fun t => k (.n none t .e))) (Nat.beq (Nat.mod i' 2) 0) = _
    dsimp only
    cases Nat.beq (Nat.mod i' 2) 0 <;> rfl
theorem T.setK_n {β : Type} (x : α) (v : Option α) (l r : T α) (i : Nat) (k : T α → β) : T.setK x (.n v l r) i k = match i with
    | 0 => k (.n (some x) l r)
    | i' + 1 => match Nat.beq (Nat.mod i' 2) 0 with
      | true => T.setK x l (Nat.div i' 2) (fun t => k (.n v t r))
      | false => T.setK x r (Nat.div i' 2) (fun t => k (.n v l t)) := by
  cases i with
  | zero => rfl
  | succ i' =>
    show Bool.rec (motive := fun _ => β) (T.setK x r (Nat.div i' 2) (fun t => k (.n v l t))) (T.setK x l (Nat.div i' 2) (fun t => k (.n v t r))) (Nat.beq (Nat.mod i' 2) 0) = _
    dsimp only
    cases Nat.beq (Nat.mod i' 2) 0 <;> rfl
theorem T.singleK_eq {β : Type} (x : α) : ∀ (f i : Nat) (k : T α → β), T.singleK x f i k = k (T.singleK x f i id)
  | 0, _, _ => rfl
  | f + 1, i, k => by
    rw [T.singleK_succ, T.singleK_succ]
    cases i with
    | zero => rfl
    | succ i' =>
      dsimp only
      cases Nat.beq (Nat.mod i' 2) 0
      · exact (T.singleK_eq x f _ _).trans (congrArg k (T.singleK_eq x f _ (fun t => T.n none .e t)).symm)
      · exact (T.singleK_eq x f _ _).trans (congrArg k (T.singleK_eq x f _ (fun t => T.n none t .e)).symm)
theorem T.setK_eq {β : Type} (x : α) : ∀ (t : T α) (i : Nat) (k : T α → β), T.setK x t i k = k (t.set i x)
  | .e, i, k => T.singleK_eq x i i k
  | .n v l r, i, k => by
    unfold T.set
    rw [T.setK_n, T.setK_n]
    cases i with
    | zero => rfl
    | succ i' =>
      dsimp only
      cases Nat.beq (Nat.mod i' 2) 0
      · exact (T.setK_eq x r _ _).trans (congrArg k (T.setK_eq x r _ (fun t => T.n v l t)).symm)
      · exact (T.setK_eq x l _ _).trans (congrArg k (T.setK_eq x l _ (fun t => T.n v t r)).symm)
theorem half_inj {i j : Nat} (hd : Nat.div i 2 = Nat.div j 2) (hm : Nat.beq (Nat.mod i 2) 0 = Nat.beq (Nat.mod j 2) 0) : i = j := by
  have e1 : Nat.div i 2 = i / 2 := rfl
  have e2 : Nat.div j 2 = j / 2 := rfl
  have e3 : Nat.mod i 2 = i % 2 := rfl
  have e4 : Nat.mod j 2 = j % 2 := rfl
  rw [e1, e2] at hd
  rw [e3, e4] at hm
  rcases Nat.mod_two_eq_zero_or_one i with a | a <;> rcases Nat.mod_two_eq_zero_or_one j with b | b <;> rw [a, b] at hm <;> first | omega | simp at hm
theorem T.get_single (x : α) : ∀ (f i j : Nat), i ≤ f → (T.singleK x f i id).get j = if j = i then some x else none
  | 0, i, j, h => by
    obtain rfl : i = 0 := by omega
    show (T.n (some x) .e .e).get j = _
    rw [T.get_n]
    cases j with
    | zero => simp
    | succ j => dsimp only; cases Nat.beq (Nat.mod j 2) 0 <;> simp [T.get_e]
  | f + 1, i, j, h => by
    rw [T.singleK_succ]
    cases i with
    | zero =>
      show (T.n (some x) .e .e).get j = _
      rw [T.get_n]
      cases j with
      | zero => simp
      | succ j => dsimp only; cases Nat.beq (Nat.mod j 2) 0 <;> simp [T.get_e]
    | succ i' =>
      have hle : Nat.div i' 2 ≤ f := by show i' / 2 ≤ f; omega
      dsimp only
      cases hb : Nat.beq (Nat.mod i' 2) 0 <;> dsimp only <;> rw [T.singleK_eq] <;> simp only [id] <;> rw [T.get_n]
      · cases j with
        | zero => simp
        | succ j' =>
          dsimp only
          cases hb' : Nat.beq (Nat.mod j' 2) 0 <;> dsimp only
          · rw [T.get_single x f _ _ hle]
            by_cases he : j' = i'
            · subst he; simp
            · rw [if_neg (fun hd => he (half_inj hd (by rw [hb, hb']))), if_neg (by omega)]
          · rw [T.get_e, if_neg]; intro he; obtain rfl : j' = i' := by omega
            rw [hb] at hb'; cases hb'
      · cases j with
        | zero => simp
        | succ j' =>
          dsimp only
          cases hb' : Nat.beq (Nat.mod j' 2) 0 <;> dsimp only
          · rw [T.get_e, if_neg]; intro he; obtain rfl : j' = i' := by omega
            rw [hb] at hb'; cases hb'
          · rw [T.get_single x f _ _ hle]
            by_cases he : j' = i'
            · subst he; simp
            · rw [if_neg (fun hd => he (half_inj hd (by rw [hb, hb']))), if_neg (by omega)]
theorem T.get_set (x : α) : ∀ (t : T α) (i j : Nat), (t.set i x).get j = if j = i then some x else t.get j
  | .e, i, j => by
    show (T.singleK x i i id).get j = _
    rw [T.get_single x i i j (Nat.le_refl _), T.get_e]
  | .n v l r, i, j => by
    unfold T.set
    rw [T.setK_n]
    cases i with
    | zero =>
      show (T.n (some x) l r).get j = _
      rw [T.get_n, T.get_n]
      cases j with
      | zero => simp
      | succ j => simp
    | succ i' =>
      dsimp only
      cases hb : Nat.beq (Nat.mod i' 2) 0 <;> dsimp only <;> rw [T.setK_eq] <;> simp only [id] <;> rw [T.get_n, T.get_n]
      · cases j with
        | zero => simp
        | succ j' =>
          dsimp only
          cases hb' : Nat.beq (Nat.mod j' 2) 0 <;> dsimp only
          · rw [T.get_set x r]
            by_cases he : j' = i'
            · subst he; simp
            · rw [if_neg (fun hd => he (half_inj hd (by rw [hb, hb']))), if_neg (by omega)]
          · rw [if_neg]; intro he; obtain rfl : j' = i' := by omega
            rw [hb] at hb'; cases hb'
      · cases j with
        | zero => simp
        | succ j' =>
          dsimp only
          cases hb' : Nat.beq (Nat.mod j' 2) 0 <;> dsimp only
          · rw [if_neg]; intro he; obtain rfl : j' = i' := by omega
            rw [hb] at hb'; cases hb'
          · rw [T.get_set x l]
            by_cases he : j' = i'
            · subst he; simp
            · rw [if_neg (fun hd => he (half_inj hd (by rw [hb, hb']))), if_neg (by omega)]
def sets (vs : List V) (t : T V) (i : Nat) : T V := setsK vs t i id
theorem setsK_cons {β : Type} (v : V) (vs : List V) (t : T V) (i : Nat) (k : T V → β) : setsK (v :: vs) t i k = setsK vs (t.set i v) (i + 1) k := by
  show T.setK v t i (fun t => natK (Nat.succ i) fun i => setsK vs t i k) = _
  rw [T.setK_eq, natK_eq]
theorem setsK_eq {β : Type} : ∀ (vs : List V) (t : T V) (i : Nat) (k : T V → β), setsK vs t i k = k (sets vs t i)
  | [], _, _, _ => rfl
  | v :: vs, t, i, k => by
    rw [setsK_cons, setsK_eq vs]; unfold sets; rw [setsK_cons]
theorem sets_cons (v : V) (vs : List V) (t : T V) (i : Nat) : sets (v :: vs) t i = sets vs (t.set i v) (i + 1) := setsK_cons v vs t i id
theorem get_sets : ∀ (vs : List V) (t : T V) (i j : Nat), (sets vs t i).get j = if i ≤ j ∧ j < i + vs.length then vs[j - i]? else t.get j
  | [], t, i, j => by rw [if_neg (by simp <;> omega)]; rfl
  | v :: vs, t, i, j => by
    rw [sets_cons, get_sets vs, T.get_set]
    by_cases h1 : i + 1 ≤ j ∧ j < i + 1 + vs.length
    · rw [if_pos h1, if_pos (by simp; omega)]
      obtain ⟨d, hd⟩ : ∃ d, j - i = d + 1 := ⟨j - i - 1, by omega⟩
      rw [hd, List.getElem?_cons_succ]; congr 1; omega
    · rw [if_neg h1]
      by_cases h2 : j = i
      · subst h2; rw [if_pos rfl, if_pos (by simp)]; simp
      · rw [if_neg h2, if_neg (by simp; omega)]
end tries

theorem natsK_eq {β : Type} : ∀ (l : List Nat) (k : List Nat → β), natsK l k = k l
  | [], _ => rfl
  | a :: l, k => by simp only [natsK, natK_eq, natsK_eq l]
theorem nf0K_eq {β : Type} (v : V) (k : V → β) : nf0K v k = k v := by
  cases v <;> simp only [nf0K, natK_eq, intK_eq, natsK_eq]
  case bool b => cases b <;> rfl
  case sl b o n c => cases c <;> rfl
theorem nfsK_eq {β : Type} : ∀ (l : List V) (k : List V → β), nfsK l k = k l
  | [], _ => rfl
  | a :: l, k => by simp only [nfsK, nf0K_eq, nfsK_eq l]
theorem nfK_eq {β : Type} (v : V) (k : V → β) : nfK v k = k v := by
  cases v <;> simp only [nfK, nf0K_eq, nfsK_eq]

/-- Which block of the machine's memory stands for which of the world's, from which of its cells on; and how many elements a block that was appended to has room for. -/
structure Ren where
  at_ : Nat → Option Nat
  cap : Nat → Nat
  sh : Nat → Nat
def Ren.le (r s : Ren) : Prop := ∀ b c, r.at_ b = some c → s.at_ b = some c ∧ s.cap b = r.cap b ∧ s.sh b = r.sh b
theorem Ren.le_refl (r : Ren) : r.le r := fun _ _ h => ⟨h, rfl, rfl⟩
theorem Ren.le_trans {r s t : Ren} (h : r.le s) (k : s.le t) : r.le t := fun b c hb =>
  ⟨(k b c (h b c hb).1).1, ((k b c (h b c hb).1).2.1).trans (h b c hb).2.1, ((k b c (h b c hb).1).2.2).trans (h b c hb).2.2⟩

mutual
/-- What a value of the machine stands for. -/
inductive VR (r : Ren) : V → Value → Prop
  | bool (b : Bool) : VR r (.bool b) (.bool b)
  | int (k : IntKind) (n : Int) : VR r (.int k n) (.int k n)
  | str (s : List Nat) (x : ByteArray) (h : x.data.toList.map UInt8.toNat = s) : VR r (.str s) (.string x)
  | nilp : VR r .nilp (.pointer none)
  | ptr (b o c s : Nat) (h : r.at_ b = some c) (hs : r.sh b + o = s) : VR r (.ptr b o) (.pointer (some ⟨c, s, none⟩))
  | far (b o c : Nat) (h : r.at_ b = some c) (ho : r.cap b = o) : VR r (.far b) (.pointer (some ⟨c, o, none⟩))
  | nils : VR r .nils (.slice none 0 0)
  | slx (b o n m c s : Nat) (h : r.at_ b = some c) (hs : r.sh b + o = s) : VR r (.sl b o n (.exact m)) (.slice (some ⟨c, s, none⟩) n m)
  | slu (b o n j c m s : Nat) (h : r.at_ b = some c) (hm : m + j = r.cap b) (hs : r.sh b + o = s) : VR r (.sl b o n (.upto j)) (.slice (some ⟨c, s, none⟩) n m)
  | nilm : VR r .nilm (.map none)
  | map (b c : Nat) (h : r.at_ b = some c) : VR r (.map b) (.map (some c))
  | fn (f : Nat) (a b : List V) (x y : List Value) (h : VRs r a x) (k : VRs r b y) : VR r (.fn f a b) (.func (.func f) ⟨x⟩ ⟨y⟩)
  | yld (b c : Nat) (h : r.at_ b = some c) : VR r (.yld b) (.func (.yield c) #[] #[])
  | nilFunc : VR r .nilFunc .nilFunc
  | nilIface : VR r .nilIface .nilIface
  | iface (t : Nat) (v : V) (x : Value) (h : VR r v x) : VR r (.iface t v) (.iface t x)
  | agg (a : List V) (x : List Value) (h : VRs r a x) : VR r (.agg a) (.agg ⟨x⟩)
  | tup (a : List V) (x : List Value) (h : VRs r a x) : VR r (.tup a) (.tuple ⟨x⟩)
  | emp (b o j c m s : Nat) (h : r.at_ b = some c) (hm : m + j = r.cap b) (a : Addr) (ha : 0 < m → a = ⟨c, s, none⟩) (hs : r.sh b + o = s) : VR r (.emp b o j) (.slice (some a) 0 m)
  | unk (x : Value) : VR r .unk x
inductive VRs (r : Ren) : List V → List Value → Prop
  | nil : VRs r [] []
  | cons (v : V) (x : Value) (a : List V) (y : List Value) (h : VR r v x) (k : VRs r a y) : VRs r (v :: a) (x :: y)
end
mutual
theorem VR.mono {r s : Ren} (hl : r.le s) : ∀ {v : V} {x : Value}, VR r v x → VR s v x
  | _, _, .bool b => .bool b
  | _, _, .int k n => .int k n
  | _, _, .str a x h => .str a x h
  | _, _, .nilp => .nilp
  | _, _, .ptr b o c s h hs => .ptr b o c s (hl b c h).1 (by rw [(hl b c h).2.2]; exact hs)
  | _, _, .far b o c h ho => .far b o c (hl b c h).1 ((hl b c h).2.1.trans ho)
  | _, _, .nils => .nils
  | _, _, .slx b o n m c s h hs => .slx b o n m c s (hl b c h).1 (by rw [(hl b c h).2.2]; exact hs)
  | _, _, .slu b o n j c m s h hm hs => .slu b o n j c m s (hl b c h).1 (by rw [(hl b c h).2.1]; exact hm) (by rw [(hl b c h).2.2]; exact hs)
  | _, _, .nilm => .nilm
  | _, _, .map b c h => .map b c (hl b c h).1
  | _, _, .fn f a b x y h k => .fn f a b x y (VRs.mono hl h) (VRs.mono hl k)
  | _, _, .yld b c h => .yld b c (hl b c h).1
  | _, _, .nilFunc => .nilFunc
  | _, _, .nilIface => .nilIface
  | _, _, .iface t v x h => .iface t v x (VR.mono hl h)
  | _, _, .agg a x h => .agg a x (VRs.mono hl h)
  | _, _, .tup a x h => .tup a x (VRs.mono hl h)
  | _, _, .emp b o j c m s h hm a ha hs => .emp b o j c m s (hl b c h).1 (by rw [(hl b c h).2.1]; exact hm) a ha (by rw [(hl b c h).2.2]; exact hs)
  | _, _, .unk x => .unk x
theorem VRs.mono {r s : Ren} (hl : r.le s) : ∀ {a : List V} {x : List Value}, VRs r a x → VRs s a x
  | _, _, .nil => .nil
  | _, _, .cons v x a y h k => .cons v x a y (VR.mono hl h) (VRs.mono hl k)
end
section lists
variable {r : Ren}
theorem VRs.length : ∀ {a : List V} {x : List Value}, VRs r a x → a.length = x.length
  | _, _, .nil => rfl
  | _, _, .cons _ _ _ _ _ k => by simp [VRs.length k]
theorem VRs.get : ∀ {a : List V} {x : List Value} {i : Nat} {v : V}, VRs r a x → a[i]? = some v → ∃ u, x[i]? = some u ∧ VR r v u
  | _, _, 0, v, .cons w x a y h k, he => by simp at he; subst he; exact ⟨x, by simp, h⟩
  | _, _, i + 1, v, .cons w x a y h k, he => by simp at he; simpa using VRs.get k he
theorem VRs.append : ∀ {a b : List V} {x y : List Value}, VRs r a x → VRs r b y → VRs r (a ++ b) (x ++ y)
  | _, _, _, _, .nil, k => k
  | _, _, _, _, .cons v x a y h k, k' => .cons v x _ _ h (VRs.append k k')
theorem VRs.drop : ∀ {a : List V} {x : List Value} (n : Nat), VRs r a x → VRs r (a.drop n) (x.drop n)
  | _, _, 0, h => h
  | _, _, _ + 1, .nil => .nil
  | _, _, n + 1, .cons _ _ _ _ _ k => VRs.drop n k
theorem VRs.take : ∀ {a : List V} {x : List Value} (n : Nat), VRs r a x → VRs r (a.take n) (x.take n)
  | _, _, 0, h => by simp; exact .nil
  | _, _, _ + 1, .nil => .nil
  | _, _, n + 1, .cons v x a y h k => .cons v x _ _ h (VRs.take n k)
theorem VRs.set : ∀ {a : List V} {x : List Value} (i : Nat) {v : V} {u : Value}, VRs r a x → VR r v u → VRs r (a.set i v) (x.set i u)
  | _, _, _, _, _, .nil, _ => .nil
  | _, _, 0, _, _, .cons _ _ a y _ k, h' => .cons _ _ a y h' k
  | _, _, i + 1, _, _, .cons v x a y h k, h' => .cons v x _ _ h (VRs.set i k h')
theorem VRs.of_get : ∀ {a : List V} {x : List Value}, a.length = x.length → (∀ (i : Nat) (v : V), a[i]? = some v → ∃ u, x[i]? = some u ∧ VR r v u) → VRs r a x
  | [], [], _, _ => .nil
  | v :: a, u :: x, hl, h => by
    obtain ⟨w, hw, hv⟩ := h 0 v rfl
    simp at hw; subst hw
    exact .cons _ _ _ _ hv (VRs.of_get (by simpa using hl) fun i v hi => by simpa using h (i + 1) v (by simpa using hi))
theorem VRs.of_get' {a : List V} {x : List Value} (hl : x.length = a.length) (h : ∀ (i : Nat) (v : V) (u : Value), a[i]? = some v → x[i]? = some u → VR r v u) : VRs r a x :=
  VRs.of_get hl.symm fun i v hi => by
    have hlt : i < x.length := by rw [hl]; exact (List.getElem?_eq_some_iff.1 hi).1
    exact ⟨x[i], List.getElem?_eq_getElem hlt, h i v _ hi (List.getElem?_eq_getElem hlt)⟩
theorem VR.cells {v : V} {x : Value} (h : VR r v x) (hu : v ≠ .unk) : VRs r v.cells x.cells.toList := by
  cases h <;> simp only [V.cells, Value.cells] <;> first | exact absurd rfl hu | assumption | exact .cons _ _ _ _ (by constructor <;> assumption) .nil
theorem VR.bool_inv {b : Bool} {x : Value} (h : VR r (.bool b) x) : x = .bool b := by cases h; rfl
theorem VR.int_inv {k : IntKind} {n : Int} {x : Value} (h : VR r (.int k n) x) : x = .int k n := by cases h; rfl
theorem VR.str_inv {s : List Nat} {x : Value} (h : VR r (.str s) x) : ∃ y : ByteArray, x = .string y ∧ y.data.toList.map UInt8.toNat = s := by cases h; exact ⟨_, rfl, by assumption⟩
theorem VR.far_inv {b : Nat} {x : Value} (h : VR r (.far b) x) : ∃ c, x = .pointer (some ⟨c, r.cap b, none⟩) ∧ r.at_ b = some c := by
  cases h with
  | far _ o c h ho => exact ⟨c, by rw [ho], h⟩
theorem VR.ptr_inv {b o : Nat} {x : Value} (h : VR r (.ptr b o) x) : ∃ c, x = .pointer (some ⟨c, r.sh b + o, none⟩) ∧ r.at_ b = some c := by
  cases h with
  | ptr _ _ c s h hs => subst hs; exact ⟨c, rfl, h⟩
theorem VR.sl_inv {b o n : Nat} {cap : Cap} {x : Value} (h : VR r (.sl b o n cap) x) : ∃ c m, x = .slice (some ⟨c, r.sh b + o, none⟩) n m ∧ r.at_ b = some c ∧ (match cap with | .exact k => m = k | .upto j => m + j = r.cap b) := by
  cases h with
  | slx _ _ _ m c s h hs => subst hs; exact ⟨c, m, rfl, h, rfl⟩
  | slu _ _ _ j c m s h hm hs => subst hs; exact ⟨c, m, rfl, h, hm⟩
theorem VR.emp_inv {b o j : Nat} {x : Value} (h : VR r (.emp b o j) x) : ∃ c m a, x = .slice (some a) 0 m ∧ r.at_ b = some c ∧ m + j = r.cap b ∧ (0 < m → a = ⟨c, r.sh b + o, none⟩) := by
  cases h with
  | emp _ _ _ c m s h hm a ha hs => subst hs; exact ⟨c, m, a, rfl, h, hm, ha⟩
theorem VR.map_inv {b : Nat} {x : Value} (h : VR r (.map b) x) : ∃ c, x = .map (some c) ∧ r.at_ b = some c := by cases h; exact ⟨_, rfl, by assumption⟩
theorem VR.fn_inv {f : Nat} {a b : List V} {x : Value} (h : VR r (.fn f a b) x) : ∃ p q, x = .func (.func f) ⟨p⟩ ⟨q⟩ ∧ VRs r a p ∧ VRs r b q := by cases h; exact ⟨_, _, rfl, by assumption, by assumption⟩
theorem VR.yld_inv {b : Nat} {x : Value} (h : VR r (.yld b) x) : ∃ c, x = .func (.yield c) #[] #[] ∧ r.at_ b = some c := by cases h; exact ⟨_, rfl, by assumption⟩
theorem VR.iface_inv {t : Nat} {v : V} {x : Value} (h : VR r (.iface t v) x) : ∃ y, x = .iface t y ∧ VR r v y := by cases h; exact ⟨_, rfl, by assumption⟩
theorem VR.agg_inv {a : List V} {x : Value} (h : VR r (.agg a) x) : ∃ y, x = .agg ⟨y⟩ ∧ VRs r a y := by cases h; exact ⟨_, rfl, by assumption⟩
theorem VR.tup_inv {a : List V} {x : Value} (h : VR r (.tup a) x) : ∃ y, x = .tuple ⟨y⟩ ∧ VRs r a y := by cases h; exact ⟨_, rfl, by assumption⟩
theorem VR.nilp_inv {x : Value} (h : VR r .nilp x) : x = .pointer none := by cases h; rfl
theorem VR.nils_inv {x : Value} (h : VR r .nils x) : x = .slice none 0 0 := by cases h; rfl
theorem VR.nilm_inv {x : Value} (h : VR r .nilm x) : x = .map none := by cases h; rfl
theorem VR.nilFunc_inv {x : Value} (h : VR r .nilFunc x) : x = .nilFunc := by cases h; rfl
theorem VR.nilIface_inv {x : Value} (h : VR r .nilIface x) : x = .nilIface := by cases h; rfl
theorem VR.cellsO {v : V} {x : Value} {l : List V} (h : VR r v x) (hl : v.cellsO = some l) : VRs r l x.cells.toList := by
  cases h <;> simp only [V.cellsO, Option.some.injEq, reduceCtorEq] at hl <;> subst hl <;> simp only [Value.cells] <;> first | assumption | exact .cons _ _ _ _ (by constructor <;> assumption) .nil
end lists
end
end Go.Ev
/- The step machine: its memory and the world's. -/
namespace Go.Ev
open Go Go.RowKit
noncomputable section

/-- Slots. -/
structure TR (r : Ren) (tm : T V) (n : Nat) (tmps : Array Value) : Prop where
  size : tmps.size = n
  at_ : ∀ t v, tm.get t = some v → ∃ x, tmps[t]? = some x ∧ VR r v x
theorem TR.mono {r s : Ren} (hl : r.le s) {tm : T V} {n : Nat} {tmps : Array Value} (h : TR r tm n tmps) : TR s tm n tmps :=
  ⟨h.size, fun t v hv => let ⟨x, hx, hr⟩ := h.at_ t v hv; ⟨x, hx, hr.mono hl⟩⟩
theorem TR.put {r : Ren} {tm : T V} {n d : Nat} {tmps : Array Value} {v : V} {x : Value} (h : TR r tm n tmps) (hd : d < n) (hv : VR r v x) : TR r (tm.set d v) n (tmps.setIfInBounds d x) :=
  ⟨by simp [h.size], fun t u hu => by
    rw [T.get_set] at hu
    by_cases he : t = d
    · subst he; simp at hu; subst hu; exact ⟨x, by simp [h.size, hd], hv⟩
    · rw [if_neg he] at hu
      obtain ⟨y, hy, hr⟩ := h.at_ t u hu
      exact ⟨y, by rw [Array.getElem?_setIfInBounds_ne (Ne.symm he)]; exact hy, hr⟩⟩

/-- Entries of a map. -/
inductive ERs (r : Ren) : List (V × V × Nat) → List MapEntry → Prop
  | nil : ERs r [] []
  | cons (k v : V) (b : Nat) (x y : Value) (es : List (V × V × Nat)) (xs : List MapEntry) (hk : VR r k x) (hv : VR r v y) (h : ERs r es xs) : ERs r ((k, v, b) :: es) (⟨x, y, b⟩ :: xs)
theorem ERs.mono {r s : Ren} (hl : r.le s) : ∀ {es : List (V × V × Nat)} {xs : List MapEntry}, ERs r es xs → ERs s es xs
  | _, _, .nil => .nil
  | _, _, .cons k v b x y es xs hk hv h => .cons k v b x y es xs (hk.mono hl) (hv.mono hl) (ERs.mono hl h)

def optAt (r : Ren) : Option Nat → Option Nat → Prop
  | none, m' => m' = none
  | some m, m' => ∃ c, r.at_ m = some c ∧ m' = some c
def AObj.live : AObj → Bool
  | .dead => false
  | .dfrNone => false
  | _ => true
def AObj.rw : AObj → Bool
  | .cells _ rw _ _ _ _ => rw
  | .dead => false
  | _ => true
/-- What an object of the machine's memory stands for. -/
def OR (P : Program) (r : Ren) (o : Option Obj) (b : Nat) : AObj → Prop
  | .dead => True
  | .dfrNone => True
  | .cells elem rw opn size z t => ∃ cs fz, o = some (.cells cs elem fz) ∧ (rw = true → ∀ i, i < cs.size → ¬ (fz.1 ≤ i ∧ i < fz.2)) ∧
      (∀ i v, cellAt t size z i = some v → ∃ x, cs[r.sh b + i]? = some x ∧ VR r v x) ∧ r.sh b + size ≤ cs.size ∧ (opn = true → cs.size = r.sh b + r.cap b * P.cellsOf elem) ∧ (opn = false → r.sh b = 0 ∧ cs.size = size)
  | .map es clock => ∃ xs, o = some (.map xs clock) ∧ ERs r es xs.toList
  | .mapIter m since seen stepped => r.sh b = 0 ∧ ∃ m', o = some (.mapIter m' since seen.toArray stepped) ∧ optAt r m m'
  | .mapIterU m since st cnt stepped => r.sh b = 0 ∧ ∃ m' seen, o = some (.mapIter (some m') since seen stepped) ∧ r.at_ m = some m' ∧ seen.size = cnt ∧ seen.toList.Nodup ∧ (∀ x ∈ seen.toList, x ∈ st) ∧ st.Nodup
  | .strIter s pos => r.sh b = 0 ∧ ∃ x, o = some (.stringIter x pos) ∧ x.data.toList.map UInt8.toNat = s
  | .loop st pending fn n tm params assign body d => ∃ tmps d', o = some (.loop ⟨st, pending, fn, tmps, params.toArray, assign, body, d'⟩) ∧ TR r tm n tmps ∧ r.at_ d = some d'
  | .dfr => o = some (.deferred (some []))
theorem OR.mono {P : Program} {r s : Ren} (hl : r.le s) {ob : Option Obj} {b c : Nat} (hb : r.at_ b = some c) {o : AObj} (h : OR P r ob b o) : OR P s ob b o := by
  cases o with
  | dead => trivial
  | dfrNone => trivial
  | cells elem rw opn size z t =>
    obtain ⟨cs, fz, h0, h1, h2, h3, h4⟩ := h
    exact ⟨cs, fz, h0, h1, fun i v hv => let ⟨x, hx, hr⟩ := h2 i v hv; ⟨x, by rw [(hl b c hb).2.2]; exact hx, hr.mono hl⟩, by rw [(hl b c hb).2.2]; exact h3, fun ho => by rw [(hl b c hb).2.1, (hl b c hb).2.2]; exact h4.1 ho, fun ho => ⟨(hl b c hb).2.2.trans (h4.2 ho).1, (h4.2 ho).2⟩⟩
  | map es clock => obtain ⟨xs, h0, h1⟩ := h; exact ⟨xs, h0, h1.mono hl⟩
  | mapIter m since seen stepped =>
    obtain ⟨hz, m', h0, h1⟩ := h
    refine ⟨(hl b c hb).2.2.trans hz, m', h0, ?_⟩
    cases m with
    | none => exact h1
    | some m => obtain ⟨c', hc, he⟩ := h1; exact ⟨c', (hl _ _ hc).1, he⟩
  | mapIterU m since st cnt stepped =>
    obtain ⟨hz, m', seen, h0, h1, h2⟩ := h
    exact ⟨(hl b c hb).2.2.trans hz, m', seen, h0, (hl _ _ h1).1, h2⟩
  | strIter s pos => exact ⟨(hl b c hb).2.2.trans h.1, h.2⟩
  | loop st pending fn n tm params assign body d =>
    obtain ⟨tmps, d', h0, h1, h2⟩ := h
    exact ⟨tmps, d', h0, h1.mono hl, (hl _ _ h2).1⟩
  | dfr => exact h

/-- The world at the beginning; names that stay; and what is to come: blocks that the machine has already and that the world has not yet, each with the frame (its depth) and the operation that lays it. -/
structure Base where
  w : World
  at0 : Nat → Option Nat
  far : Nat → Option (Nat × Nat)
  pend : Nat → Option (AObj × Nat × Nat)
/-- Of the pointers that are known by name alone: where they point to at the beginning; no two to the same place. -/
structure FarOk (w0 : Base) : Prop where
  cells : ∀ b p, w0.far b = some p → p.1 < w0.w.heap.size ∧ ∃ cs e, w0.w.heap[p.1]? = some (.cells cs e (0, 0))
  inj : ∀ b b' p, w0.far b = some p → w0.far b' = some p → b = b'
/-- The machine's memory and the world's, in a run that began in w0. -/
structure HR (P : Program) (w0 : Base) (r : Ren) (h : H) (w : World) : Prop where
  ob : ∀ b o, h.t.get b = some o → o.live = true → ∀ d, r.at_ b = some d → ∃ c, r.at_ b = some c ∧ OR P r w.heap[c]? b o ∧ (o.rw = true → w0.w.heap.size ≤ c)
  inj : ∀ b b' o o' c, h.t.get b = some o → o.live = true → h.t.get b' = some o' → o'.live = true → r.at_ b = some c → r.at_ b' = some c → b = b'
  fresh : ∀ b, h.nx ≤ b → r.at_ b = none
  glob : ∀ g, g < 500 → r.at_ g = some g
  below : Below w0.w.heap.size w0.w w
  keep : ∀ b e, w0.pend b = some e → (∀ o, h.t.get b = some o → o = e.1) ∧ r.at_ b = none ∧ b < h.nx ∧ 1000 ≤ b
  names : ∀ b c, w0.at0 b = some c → r.at_ b = some c
  low : 1000 ≤ h.nx
  fars : ∀ b c, 500 ≤ b → b < 1000 → r.at_ b = some c → w0.far b = some (c, r.cap b)
  farok : FarOk w0
  gsh : ∀ g, g < 500 → r.sh g = 0
  nsh : ∀ b c, w0.at0 b = some c → r.sh b = 0

/-- Only one block has turned. -/
structure Upd (c : Nat) (w w' : World) : Prop where
  os : w'.os = w.os
  tape : w'.tape = w.tape
  output : w'.output = w.output
  size : w'.heap.size = w.heap.size
  block : ∀ k, k ≠ c → w'.heap[k]? = w.heap[k]?
theorem Upd.refl (c : Nat) (w : World) : Upd c w w := ⟨rfl, rfl, rfl, rfl, fun _ _ => rfl⟩
theorem Upd.trans {c : Nat} {a b d : World} (h : Upd c a b) (k : Upd c b d) : Upd c a d :=
  ⟨k.os.trans h.os, k.tape.trans h.tape, k.output.trans h.output, k.size.trans h.size, fun i hi => (k.block i hi).trans (h.block i hi)⟩
theorem Upd.below {B c : Nat} {w w' : World} (h : Upd c w w') (hB : B ≤ c) : Below B w w' :=
  ⟨h.os, h.tape, h.output, by rw [h.size]; exact Nat.le_refl _, fun k hk => h.block k (by omega)⟩
theorem Upd.setObj {w : World} {c : Nat} (o : Obj) : Upd c w { w with heap := w.heap.setIfInBounds c o } :=
  ⟨rfl, rfl, rfl, by simp, fun k hk => by simp [Array.getElem?_setIfInBounds_ne (Ne.symm hk)]⟩
section
variable {P : Program} {w0 : Base} {w w' : World} {r : Ren} {h : H}
theorem HR.upd {b c : Nat} {o o' : AObj} (hr : HR P w0 r h w) (hb : h.t.get b = some o) (hl : o.live = true) (hrw : o.rw = true) (hc : r.at_ b = some c) (u : Upd c w w')
    (ho' : o'.live = true → OR P r w'.heap[c]? b o') : HR P w0 r ⟨h.t.set b o', h.nx⟩ w' := by
  obtain ⟨c', hc', _, hge⟩ := hr.ob b o hb hl _ hc
  obtain rfl : c' = c := by rw [hc] at hc'; exact (Option.some.inj hc').symm
  refine ⟨?_, ?_, hr.fresh, hr.glob, hr.below.trans (u.below (hge hrw)), fun b1 o1 hp => ?_, hr.names, hr.low, hr.fars, hr.farok, hr.gsh, hr.nsh⟩
  · intro b1 o1 h1 l1 d1 hd1
    rw [T.get_set] at h1
    by_cases he : b1 = b
    · subst he; simp at h1; subst h1
      exact ⟨c', hc, ho' l1, fun _ => hge hrw⟩
    · rw [if_neg he] at h1
      obtain ⟨d, hd, hO, hg⟩ := hr.ob b1 o1 h1 l1 _ hd1
      refine ⟨d, hd, ?_, hg⟩
      have hne : d ≠ c' := fun e => he (hr.inj b1 b o1 o c' h1 l1 hb hl (e ▸ hd) hc)
      rw [u.block d hne]; exact hO
  · intro b1 b2 o1 o2 d h1 l1 h2 l2 hd1 hd2
    rw [T.get_set] at h1 h2
    by_cases e1 : b1 = b <;> by_cases e2 : b2 = b
    · rw [e1, e2]
    · subst e1; rw [if_neg e2] at h2
      exact (hr.inj b2 b1 o2 o d h2 l2 hb hl hd2 hd1).symm
    · subst e2; rw [if_neg e1] at h1
      exact hr.inj b1 b2 o1 o d h1 l1 hb hl hd1 hd2
    · rw [if_neg e1] at h1; rw [if_neg e2] at h2
      exact hr.inj b1 b2 o1 o2 d h1 l1 h2 l2 hd1 hd2
  · obtain ⟨k1, k2, k3⟩ := hr.keep b1 o1 hp
    have hne : b1 ≠ b := fun e => by subst e; rw [hc] at k2; cases k2
    exact ⟨by rw [T.get_set, if_neg hne]; exact k1, k2, k3⟩
/-- The world turned outside memory alone. -/
theorem HR.same (hr : HR P w0 r h w) (hh : w'.heap = w.heap) (ho : w'.os = w.os) (ht : w'.tape = w.tape) (hp : w'.output = w.output) : HR P w0 r h w' :=
  ⟨fun b o hb hl d hd => by rw [hh]; exact hr.ob b o hb hl d hd, hr.inj, hr.fresh, hr.glob,
    hr.below.trans ⟨ho, ht, hp, by rw [hh]; exact Nat.le_refl _, fun k _ => by rw [hh]⟩, hr.keep, hr.names, hr.low, hr.fars, hr.farok, hr.gsh, hr.nsh⟩
theorem HR.drew (hr : HR P w0 r h w) : HR P w0 r h w.drew := hr.same rfl rfl rfl rfl
/-- What is known of a block falls away. -/
theorem HR.kill (hr : HR P w0 r h w) (b : Nat) {c : Nat} (hc : r.at_ b = some c) : HR P w0 r ⟨h.t.set b .dead, h.nx⟩ w := by
  refine ⟨?_, ?_, hr.fresh, hr.glob, hr.below, fun b1 o1 hp => ?_, hr.names, hr.low, hr.fars, hr.farok, hr.gsh, hr.nsh⟩
  · intro b1 o1 h1 l1 d1 hd1
    rw [T.get_set] at h1
    by_cases he : b1 = b
    · subst he; simp at h1; subst h1; simp [AObj.live] at l1
    · rw [if_neg he] at h1; exact hr.ob b1 o1 h1 l1 d1 hd1
  · intro b1 b2 o1 o2 d h1 l1 h2 l2 hd1 hd2
    rw [T.get_set] at h1 h2
    by_cases e1 : b1 = b
    · subst e1; simp at h1; subst h1; simp [AObj.live] at l1
    · by_cases e2 : b2 = b
      · subst e2; simp at h2; subst h2; simp [AObj.live] at l2
      · rw [if_neg e1] at h1; rw [if_neg e2] at h2
        exact hr.inj b1 b2 o1 o2 d h1 l1 h2 l2 hd1 hd2
  · obtain ⟨k1, k2, k3⟩ := hr.keep b1 o1 hp
    have hne : b1 ≠ b := fun e => by subst e; rw [hc] at k2; cases k2
    exact ⟨by rw [T.get_set, if_neg hne]; exact k1, k2, k3⟩
theorem ext_fars {far : Nat → Option (Nat × Nat)} {r : Ren} {b c k : Nat} (hb : 1000 ≤ b) (h : ∀ b c, 500 ≤ b → b < 1000 → r.at_ b = some c → far b = some (c, r.cap b)) :
    ∀ x y, 500 ≤ x → x < 1000 → (fun x => if x = b then some c else r.at_ x) x = some y → far x = some (y, (fun x => if x = b then k else r.cap x) x) := fun x y h1 h2 h3 => by
  have hne : x ≠ b := by omega
  simp only [if_neg hne] at h3 ⊢
  exact h x y h1 h2 h3
def Ren.exts (r : Ren) (b c k s : Nat) : Ren := ⟨fun x => if x = b then some c else r.at_ x, fun x => if x = b then k else r.cap x, fun x => if x = b then s else r.sh x⟩
def Ren.ext (r : Ren) (b c k : Nat) : Ren := r.exts b c k 0
theorem Ren.exts_le {r : Ren} {b c k s : Nat} (h : r.at_ b = none) : r.le (r.exts b c k s) := fun x d hx => by
  have : x ≠ b := fun e => by subst e; rw [h] at hx; cases hx
  exact ⟨by simp [Ren.exts, this, hx], by simp [Ren.exts, this], by simp [Ren.exts, this]⟩
theorem Ren.ext_le {r : Ren} {b c k : Nat} (h : r.at_ b = none) : r.le (r.ext b c k) := Ren.exts_le h
theorem Ren.exts_at (r : Ren) (b c k s : Nat) : (r.exts b c k s).at_ b = some c := by simp [Ren.exts]
theorem Ren.exts_cap (r : Ren) (b c k s : Nat) : (r.exts b c k s).cap b = k := by simp [Ren.exts]
theorem Ren.exts_sh (r : Ren) (b c k s : Nat) : (r.exts b c k s).sh b = s := by simp [Ren.exts]
theorem Ren.ext_sh (r : Ren) (b c k : Nat) : (r.ext b c k).sh b = 0 := by simp [Ren.ext, Ren.exts]
theorem Ren.ext_at (r : Ren) (b c k : Nat) : (r.ext b c k).at_ b = some c := by simp [Ren.ext, Ren.exts]
theorem Ren.ext_cap (r : Ren) (b c k : Nat) : (r.ext b c k).cap b = k := by simp [Ren.ext, Ren.exts]
theorem HR.none_nx (hr : HR P w0 r h w) : r.at_ h.nx = none := hr.fresh _ (Nat.le_refl _)
theorem OR.live {o : Option Obj} {b : Nat} {ao : AObj} (h : OR P r o b ao) (hl : ao.live = true) : ∃ x, o = some x := by
  cases ao with
  | dead => cases hl
  | dfrNone => cases hl
  | cells => obtain ⟨cs, fz, h0, _⟩ := h; exact ⟨_, h0⟩
  | map => obtain ⟨xs, h0, _⟩ := h; exact ⟨_, h0⟩
  | mapIter => obtain ⟨_, xs, h0, _⟩ := h; exact ⟨_, h0⟩
  | mapIterU => obtain ⟨_, xs, _, h0, _⟩ := h; exact ⟨_, h0⟩
  | strIter => obtain ⟨_, xs, h0, _⟩ := h; exact ⟨_, h0⟩
  | loop => obtain ⟨xs, _, h0, _⟩ := h; exact ⟨_, h0⟩
  | dfr => exact ⟨_, h⟩
theorem HR.lt (hr : HR P w0 r h w) {b c : Nat} {o : AObj} (hb : h.t.get b = some o) (hl : o.live = true) (hc : r.at_ b = some c) : c < w.heap.size := by
  obtain ⟨c', hc', hO, _⟩ := hr.ob b o hb hl _ hc
  obtain rfl : c' = c := by rw [hc] at hc'; exact (Option.some.inj hc').symm
  obtain ⟨x, hx⟩ := hO.live hl
  exact (Array.getElem?_eq_some_iff.1 hx).1
/-- A new block. -/
theorem HR.new (hr : HR P w0 r h w) (o : Obj) (ao : AObj) (k : Nat) (ho : OR P (r.ext h.nx w.heap.size k) (some o) h.nx ao) :
    HR P w0 (r.ext h.nx w.heap.size k) ⟨h.t.set h.nx ao, h.nx + 1⟩ (w.alloc o) ∧ r.le (r.ext h.nx w.heap.size k) := by
  have hle := Ren.ext_le (c := w.heap.size) (k := k) hr.none_nx
  have hnew : (w.alloc o).heap[w.heap.size]? = some o := by show (w.heap.push o)[w.heap.size]? = _; simp
  refine ⟨⟨?_, ?_, ?_, fun g hg => (hle g g (hr.glob g hg)).1, hr.below.alloc hr.below.size o, fun b1 o1 hp => ?_, fun x y hxy => (hle _ _ (hr.names x y hxy)).1, Nat.le_succ_of_le hr.low, ext_fars hr.low hr.fars, hr.farok, fun g hg => ((hle g g (hr.glob g hg)).2.2).trans (hr.gsh g hg), fun b c hb => ((hle b c (hr.names b c hb)).2.2).trans (hr.nsh b c hb)⟩, hle⟩
  · intro b1 o1 h1 l1 d1 hd1
    rw [T.get_set] at h1
    by_cases he : b1 = h.nx
    · subst he; simp at h1; subst h1
      exact ⟨_, Ren.ext_at .., by rw [hnew]; exact ho, fun _ => hr.below.size⟩
    · rw [if_neg he] at h1
      simp [Ren.ext, Ren.exts, he] at hd1
      obtain ⟨d, hd, hO, hg⟩ := hr.ob b1 o1 h1 l1 _ hd1
      exact ⟨d, (hle _ _ hd).1, by rw [Below.heap_alloc _ _ _ (hr.lt h1 l1 hd)]; exact hO.mono hle hd, hg⟩
  · intro b1 b2 o1 o2 d h1 l1 h2 l2 hd1 hd2
    rw [T.get_set] at h1 h2
    by_cases e1 : b1 = h.nx <;> by_cases e2 : b2 = h.nx
    · rw [e1, e2]
    · subst e1
      rw [if_neg e2] at h2
      simp [Ren.ext, Ren.exts] at hd1; subst hd1
      simp [Ren.ext, Ren.exts, e2] at hd2
      exact absurd (hr.lt h2 l2 hd2) (by omega)
    · subst e2
      rw [if_neg e1] at h1
      simp [Ren.ext, Ren.exts] at hd2; subst hd2
      simp [Ren.ext, Ren.exts, e1] at hd1
      exact absurd (hr.lt h1 l1 hd1) (by omega)
    · rw [if_neg e1] at h1; rw [if_neg e2] at h2
      simp [Ren.ext, Ren.exts, e1] at hd1; simp [Ren.ext, Ren.exts, e2] at hd2
      exact hr.inj b1 b2 o1 o2 d h1 l1 h2 l2 hd1 hd2
  · intro b hb
    have hb : h.nx + 1 ≤ b := hb
    simp only [Ren.ext, Ren.exts]
    rw [if_neg (by omega)]
    exact hr.fresh b (by omega)
  · obtain ⟨k1, k2, k3⟩ := hr.keep b1 o1 hp
    have hne : b1 ≠ h.nx := by omega
    exact ⟨by rw [T.get_set, if_neg hne]; exact k1, by simp [Ren.ext, Ren.exts, hne, k2], by show b1 < h.nx + 1 ∧ 1000 ≤ b1; omega⟩
/-- What was to come has come: the world lays the block. -/
theorem HR.name (hr : HR P w0 r h w) {b : Nat} {ao : AObj} {dj : Nat × Nat} (hp : w0.pend b = some (ao, dj)) (o : Obj) (k : Nat) (ho : OR P (r.ext b w.heap.size k) (some o) b ao) :
    HR P ⟨w0.w, w0.at0, w0.far, fun x => if x = b then none else w0.pend x⟩ (r.ext b w.heap.size k) h (w.alloc o) ∧ r.le (r.ext b w.heap.size k) := by
  obtain ⟨hget, hnone, hlt⟩ := hr.keep b _ hp
  have hle := Ren.ext_le (c := w.heap.size) (k := k) hnone
  have hnew : (w.alloc o).heap[w.heap.size]? = some o := by show (w.heap.push o)[w.heap.size]? = _; simp
  refine ⟨⟨?_, ?_, ?_, fun g hg => (hle g g (hr.glob g hg)).1, hr.below.alloc hr.below.size o, fun b1 o1 hp1 => ?_, fun x y hxy => (hle _ _ (hr.names x y hxy)).1, hr.low, ext_fars (hr.keep b _ hp).2.2.2 hr.fars, ⟨hr.farok.1, hr.farok.2⟩, fun g hg => ((hle g g (hr.glob g hg)).2.2).trans (hr.gsh g hg), fun b c hb => ((hle b c (hr.names b c hb)).2.2).trans (hr.nsh b c hb)⟩, hle⟩
  · intro b1 o1 h1 l1 d1 hd1
    by_cases he : b1 = b
    · subst he
      obtain rfl := hget _ h1
      exact ⟨_, Ren.ext_at .., by rw [hnew]; exact ho, fun _ => hr.below.size⟩
    · simp [Ren.ext, Ren.exts, he] at hd1
      obtain ⟨d, hd, hO, hg⟩ := hr.ob b1 o1 h1 l1 _ hd1
      exact ⟨d, (hle _ _ hd).1, by rw [Below.heap_alloc _ _ _ (hr.lt h1 l1 hd)]; exact hO.mono hle hd, hg⟩
  · intro b1 b2 o1 o2 d h1 l1 h2 l2 hd1 hd2
    by_cases e1 : b1 = b <;> by_cases e2 : b2 = b
    · rw [e1, e2]
    · subst e1
      simp [Ren.ext, Ren.exts] at hd1; subst hd1
      simp [Ren.ext, Ren.exts, e2] at hd2
      exact absurd (hr.lt h2 l2 hd2) (by omega)
    · subst e2
      simp [Ren.ext, Ren.exts] at hd2; subst hd2
      simp [Ren.ext, Ren.exts, e1] at hd1
      exact absurd (hr.lt h1 l1 hd1) (by omega)
    · simp [Ren.ext, Ren.exts, e1] at hd1; simp [Ren.ext, Ren.exts, e2] at hd2
      exact hr.inj b1 b2 o1 o2 d h1 l1 h2 l2 hd1 hd2
  · intro b1 hb1
    simp only [Ren.ext, Ren.exts]
    rw [if_neg (by omega)]
    exact hr.fresh b1 hb1
  · dsimp only at hp1
    split at hp1
    · cases hp1
    · rename_i hne
      obtain ⟨k1, k2, k3⟩ := hr.keep b1 o1 hp1
      exact ⟨k1, by simp [Ren.ext, Ren.exts, hne, k2], k3⟩
/-- The machine lays a block ahead of the world. -/
theorem HR.ahead (hr : HR P w0 r h w) (ao : AObj) (dj : Nat × Nat) : HR P ⟨w0.w, w0.at0, w0.far, fun x => if x = h.nx then some (ao, dj) else w0.pend x⟩ r ⟨h.t.set h.nx ao, h.nx + 1⟩ w := by
  refine ⟨?_, ?_, fun b hb => hr.fresh b (by have : h.nx + 1 ≤ b := hb; omega), hr.glob, hr.below, fun b1 o1 hp1 => ?_, hr.names, Nat.le_succ_of_le hr.low, hr.fars, ⟨hr.farok.1, hr.farok.2⟩, hr.gsh, hr.nsh⟩
  · intro b1 o1 h1 l1 d1 hd1
    rw [T.get_set] at h1
    by_cases he : b1 = h.nx
    · subst he; rw [hr.none_nx] at hd1; cases hd1
    · rw [if_neg he] at h1; exact hr.ob b1 o1 h1 l1 d1 hd1
  · intro b1 b2 o1 o2 d h1 l1 h2 l2 hd1 hd2
    rw [T.get_set] at h1 h2
    have e1 : b1 ≠ h.nx := fun e => by subst e; rw [hr.none_nx] at hd1; cases hd1
    have e2 : b2 ≠ h.nx := fun e => by subst e; rw [hr.none_nx] at hd2; cases hd2
    rw [if_neg e1] at h1; rw [if_neg e2] at h2
    exact hr.inj b1 b2 o1 o2 d h1 l1 h2 l2 hd1 hd2
  · dsimp only at hp1
    split at hp1
    · rename_i he; subst he; cases hp1
      exact ⟨fun o ho => by rw [T.get_set, if_pos rfl] at ho; exact (Option.some.inj ho).symm, hr.none_nx, by show h.nx < h.nx + 1 ∧ 1000 ≤ h.nx; have := hr.low; omega⟩
    · rename_i hne
      obtain ⟨k1, k2, k3⟩ := hr.keep b1 o1 hp1
      exact ⟨by rw [T.get_set, if_neg hne]; exact k1, k2, by show b1 < h.nx + 1 ∧ 1000 ≤ b1; omega⟩
/-- A block is written on under a new name: the old one falls away. -/
theorem HR.rename {b c k sh : Nat} {o o' : AObj} (hr : HR P w0 r h w) (hb : h.t.get b = some o) (hl : o.live = true) (hrw : o.rw = true) (hc : r.at_ b = some c) (u : Upd c w w')
    (ho' : OR P (r.exts h.nx c k sh) w'.heap[c]? h.nx o') : HR P w0 (r.exts h.nx c k sh) ⟨(h.t.set b .dead).set h.nx o', h.nx + 1⟩ w' ∧ r.le (r.exts h.nx c k sh) := by
  have hle := Ren.exts_le (c := c) (k := k) (s := sh) hr.none_nx
  have hbn : b ≠ h.nx := fun e => by rw [e, hr.none_nx] at hc; cases hc
  obtain ⟨c', hc', _, hge⟩ := hr.ob b o hb hl _ hc
  obtain rfl : c' = c := by rw [hc] at hc'; exact (Option.some.inj hc').symm
  refine ⟨⟨?_, ?_, ?_, fun g hg => (hle g g (hr.glob g hg)).1, hr.below.trans (u.below (hge hrw)), fun b1 o1 hp => ?_, fun x y hxy => (hle _ _ (hr.names x y hxy)).1, Nat.le_succ_of_le hr.low, ext_fars hr.low hr.fars, hr.farok, fun g hg => ((hle g g (hr.glob g hg)).2.2).trans (hr.gsh g hg), fun b c hb => ((hle b c (hr.names b c hb)).2.2).trans (hr.nsh b c hb)⟩, hle⟩
  · intro b1 o1 h1 l1 d1 hd1
    rw [T.get_set, T.get_set] at h1
    by_cases he : b1 = h.nx
    · subst he; simp at h1; subst h1
      exact ⟨_, Ren.exts_at .., ho', fun _ => hge hrw⟩
    · rw [if_neg he] at h1
      by_cases he' : b1 = b
      · subst he'; simp at h1; subst h1; simp [AObj.live] at l1
      · rw [if_neg he'] at h1
        simp [Ren.exts, he] at hd1
        obtain ⟨d, hd, hO, hg⟩ := hr.ob b1 o1 h1 l1 _ hd1
        have hne : d ≠ c' := fun e => he' (hr.inj b1 b o1 o c' h1 l1 hb hl (e ▸ hd) hc)
        exact ⟨d, (hle _ _ hd).1, by rw [u.block d hne]; exact hO.mono hle hd, hg⟩
  · intro b1 b2 o1 o2 d h1 l1 h2 l2 hd1 hd2
    rw [T.get_set, T.get_set] at h1 h2
    by_cases e1 : b1 = h.nx <;> by_cases e2 : b2 = h.nx
    · rw [e1, e2]
    · subst e1
      rw [if_neg e2] at h2
      by_cases e3 : b2 = b
      · subst e3; simp at h2; subst h2; simp [AObj.live] at l2
      · rw [if_neg e3] at h2
        simp [Ren.exts] at hd1; subst hd1
        simp [Ren.exts, e2] at hd2
        exact absurd (hr.inj b2 b o2 o c' h2 l2 hb hl hd2 hc) e3
    · subst e2
      rw [if_neg e1] at h1
      by_cases e3 : b1 = b
      · subst e3; simp at h1; subst h1; simp [AObj.live] at l1
      · rw [if_neg e3] at h1
        simp [Ren.exts] at hd2; subst hd2
        simp [Ren.exts, e1] at hd1
        exact absurd (hr.inj b1 b o1 o c' h1 l1 hb hl hd1 hc) e3
    · rw [if_neg e1] at h1; rw [if_neg e2] at h2
      by_cases e3 : b1 = b
      · subst e3; simp at h1; subst h1; simp [AObj.live] at l1
      · by_cases e4 : b2 = b
        · subst e4; simp at h2; subst h2; simp [AObj.live] at l2
        · rw [if_neg e3] at h1; rw [if_neg e4] at h2
          simp [Ren.exts, e1] at hd1; simp [Ren.exts, e2] at hd2
          exact hr.inj b1 b2 o1 o2 d h1 l1 h2 l2 hd1 hd2
  · intro b hb
    have hb : h.nx + 1 ≤ b := hb
    simp only [Ren.exts]
    rw [if_neg (by omega)]
    exact hr.fresh b (by omega)
  · obtain ⟨k1, k2, k3⟩ := hr.keep b1 o1 hp
    have hne : b1 ≠ h.nx := by omega
    have hne2 : b1 ≠ b := fun e => by subst e; rw [hc] at k2; cases k2
    exact ⟨by rw [T.get_set, if_neg hne, T.get_set, if_neg hne2]; exact k1, by simp [Ren.exts, hne, k2], by show b1 < h.nx + 1 ∧ 1000 ≤ b1; omega⟩
end

-- reading
theorem cellsAt_spec (t : T V) (size : Nat) (z : List V) (off : Nat) : ∀ (n : Nat) (acc l : List V), cellsAt t size z off n acc = some l →
    ∃ m : List V, l = m ++ acc ∧ m.length = n ∧ ∀ (i : Nat) (v : V), m[i]? = some v → cellAt t size z (off + i) = some v
  | 0, acc, l, h => ⟨[], (Option.some.inj h).symm, rfl, by simp⟩
  | n + 1, acc, l, h => by
    have e : cellsAt t size z off (n + 1) acc = match cellAt t size z (Nat.add off n) with
      | some v => cellsAt t size z off n (v :: acc)
      | none => none := rfl
    rw [e] at h
    cases hv : cellAt t size z (Nat.add off n) with
    | none => rw [hv] at h; cases h
    | some v =>
      rw [hv] at h
      obtain ⟨m, h1, h2, h3⟩ := cellsAt_spec t size z off n (v :: acc) l h
      refine ⟨m ++ [v], by simp [h1], by simp [h2], fun i u hu => ?_⟩
      by_cases hi : i < m.length
      · rw [List.getElem?_append_left hi] at hu; exact h3 i u hu
      · rw [List.getElem?_append_right (by omega)] at hu
        by_cases he : i - m.length = 0
        · rw [he] at hu; simp at hu; subst hu
          have : i = n := by omega
          subst this; exact hv
        · obtain ⟨q, hq⟩ : ∃ q, i - m.length = q + 1 := ⟨i - m.length - 1, by omega⟩
          rw [hq] at hu; simp at hu
theorem add_none (c o i : Nat) : Addr.add ⟨c, o, none⟩ i = ⟨c, o + i, none⟩ := by
  unfold Addr.add; split
  · subst_vars; rfl
  · rfl
theorem cell?_of {w : World} {c o : Nat} {cs : Array Value} {e : TypeId} {fz : Nat × Nat} (h : w.heap[c]? = some (.cells cs e fz)) : w.cell? ⟨c, o, none⟩ = cs[o]? := by
  simp [World.cell?, h]
section
variable {P : Program} {w0 : Base} {w w' : World} {r : Ren} {h : H}
theorem HR.cells (hr : HR P w0 r h w) {b c elem size : Nat} {rw opn : Bool} {z : List V} {t : T V} (hb : h.t.get b = some (.cells elem rw opn size z t)) (hc : r.at_ b = some c) :
    ∃ cs fz, w.heap[c]? = some (.cells cs elem fz) ∧ (rw = true → ∀ i, i < cs.size → ¬ (fz.1 ≤ i ∧ i < fz.2)) ∧
      (∀ i v, cellAt t size z i = some v → ∃ x, cs[r.sh b + i]? = some x ∧ VR r v x) ∧ r.sh b + size ≤ cs.size ∧ (opn = true → cs.size = r.sh b + r.cap b * P.cellsOf elem) ∧ (opn = false → r.sh b = 0 ∧ cs.size = size) := by
  obtain ⟨c', hc', hO, _⟩ := hr.ob b _ hb rfl _ hc
  obtain rfl : c' = c := by rw [hc] at hc'; exact (Option.some.inj hc').symm
  exact hO
theorem load1_ok (hr : HR P w0 r h w) {b o c : Nat} {v : V} (hc : r.at_ b = some c) (hl : load1 h b o = some v) : ∃ x, w.cell? ⟨c, r.sh b + o, none⟩ = some x ∧ VR r v x := by
  unfold load1 at hl
  cases hb : h.t.get b with
  | none => rw [hb] at hl; cases hl
  | some ob =>
    rw [hb] at hl
    cases ob with
    | cells elem rw opn size z t =>
      obtain ⟨cs, fz, h0, h1, h2, _⟩ := hr.cells hb hc
      obtain ⟨x, hx, hv⟩ := h2 o v hl
      exact ⟨x, by rw [cell?_of h0]; exact hx, hv⟩
    | _ => cases hl
theorem loadN_take (hr : HR P w0 r h w) {b o c n k : Nat} {l : List V} (hc : r.at_ b = some c) (hl : loadN h b o n = some l) (hk : k ≤ n) :
    ∃ xs : List Value, VRs r (l.take k) xs ∧ l.length = n ∧ ∀ d : World, d.heap = w.heap → (loadCells ⟨c, r.sh b + o, none⟩ k).run P d = .ok xs.toArray d := by
  unfold loadN at hl
  cases hb : h.t.get b with
  | none => rw [hb] at hl; cases hl
  | some ob =>
    rw [hb] at hl
    cases ob with
    | cells elem rw opn size z t =>
      obtain ⟨cs, fz, h0, h1, h2, _⟩ := hr.cells hb hc
      obtain ⟨m, e, hn, hm⟩ := cellsAt_spec t size z o n [] l hl
      simp at e; subst e
      have hx : ∀ j : Nat, j < n → ∃ x, w.cell? ⟨c, r.sh b + o + j, none⟩ = some x ∧ ∃ v, l[j]? = some v ∧ VR r v x := fun j hj => by
        have hj' : j < l.length := by omega
        have e := List.getElem?_eq_getElem hj'
        obtain ⟨x, hx, hv⟩ := h2 _ _ (hm j _ e)
        exact ⟨x, by rw [cell?_of h0, Nat.add_assoc]; exact hx, _, e, hv⟩
      let f : Nat → Value := fun j => (w.cell? ⟨c, r.sh b + o + j, none⟩).getD undef
      have hf : ∀ d : World, d.heap = w.heap → ∀ j, j < k → d.cell? (Addr.add ⟨c, r.sh b + o, none⟩ j) = some (f j) := fun d hd j hj => by
        obtain ⟨x, hx, _⟩ := hx j (by omega)
        rw [add_none]
        have e : d.cell? ⟨c, r.sh b + o + j, none⟩ = w.cell? ⟨c, r.sh b + o + j, none⟩ := by simp [World.cell?, hd]
        rw [e]; simp [f, hx]
      refine ⟨(List.range k).map f, VRs.of_get' (by simp [hn]; omega) fun i v u hi hu => ?_, hn, fun d hd => run_loadCells d _ k f (hf d hd)⟩
      have hi' : i < k := by
        have := (List.getElem?_eq_some_iff.1 hu).1
        simpa using this
      obtain ⟨x, hx, v', hv', hvr⟩ := hx i (by omega)
      rw [List.getElem?_take, if_pos hi', hv'] at hi
      cases hi
      simp [hi', f, hx] at hu
      subst hu; exact hvr
    | _ => cases hl
theorem loadN_ok (hr : HR P w0 r h w) {b o c n : Nat} {l : List V} (hc : r.at_ b = some c) (hl : loadN h b o n = some l) :
    ∃ xs : List Value, VRs r l xs ∧ l.length = n ∧ (loadCells ⟨c, r.sh b + o, none⟩ n).run P w = .ok xs.toArray w := by
  obtain ⟨xs, h1, h2, h3⟩ := loadN_take hr hc hl (Nat.le_refl n)
  rw [← h2, List.take_length] at h1
  exact ⟨xs, h1, h2, h3 w rfl⟩
theorem loadN_all (hr : HR P w0 r h w) {b o c n : Nat} {l : List V} (hc : r.at_ b = some c) (hl : loadN h b o n = some l) :
    ∃ xs : List Value, VRs r l xs ∧ l.length = n ∧ ∀ d : World, d.heap = w.heap → (loadCells ⟨c, r.sh b + o, none⟩ n).run P d = .ok xs.toArray d := by
  obtain ⟨xs, h1, h2, h3⟩ := loadN_take hr hc hl (Nat.le_refl n)
  rw [← h2, List.take_length] at h1
  exact ⟨xs, h1, h2, h3⟩
theorem tyI_spec {t n : Nat} {g : Bool} (ht : tyI P t = some (g, n)) : (∀ w, (isAgg t).run P w = .ok g w) ∧ (∀ w, (sizeOf t).run P w = .ok n w) ∧ P.cellsOf t = n := by
  unfold tyI at ht
  cases hd : P.underlying t with
  | none => rw [hd] at ht; cases ht
  | some d =>
    cases hi : P.info? t with
    | none => rw [hd, hi] at ht; cases ht
    | some i =>
      rw [hd, hi] at ht
      simp only [Option.some.injEq, Prod.mk.injEq] at ht
      obtain ⟨hg, hn⟩ := ht
      refine ⟨fun w => ?_, fun w => ?_, ?_⟩
      · simp only [isAgg, Sem.run_bind, run_underlying hd, Result.andThen]
        rw [← hg]
        cases d <;> rfl
      · simp [sizeOf, typeInfo, hi, hn, Result.andThen]
      · simp [Program.cellsOf, hi, hn]
theorem loadT_ok (hr : HR P w0 r h w) {t b o c : Nat} {v : V} (hc : r.at_ b = some c) (hl : loadT P h t b o = some v) :
    ∃ x, VR r v x ∧ (loadVar t ⟨c, r.sh b + o, none⟩).run P w = .ok x w := by
  unfold loadT at hl
  cases ht : tyI P t with
  | none => rw [ht] at hl; cases hl
  | some gn =>
    obtain ⟨g, n⟩ := gn
    rw [ht] at hl
    obtain ⟨h1, h2, _⟩ := tyI_spec ht
    cases g with
    | true =>
      dsimp only at hl
      cases hL : loadN h b o n with
      | none => rw [hL] at hl; cases hl
      | some l =>
        rw [hL] at hl; cases hl
        obtain ⟨xs, hv, _, hrun⟩ := loadN_ok hr hc hL
        exact ⟨.agg ⟨xs⟩, .agg l xs hv, by simp [loadVar, h1, h2, hrun, Result.andThen]⟩
    | false =>
      obtain ⟨x, hx, hv⟩ := load1_ok hr hc hl
      exact ⟨x, hv, by simp [loadVar, h1, hx, Result.andThen]⟩
theorem ones_spec : ∀ {l : List V} {xs : List Value}, ones l = true → VRs r l xs → ∀ x ∈ xs, x.oneCell' = true
  | [], _, _, .nil, x, hx => by cases hx
  | v :: l, _, h1, .cons _ y _ ys hv hl, x, hx => by
    simp only [ones, Bool.and_eq_true] at h1
    rcases List.mem_cons.1 hx with rfl | hx
    · cases hv <;> first | rfl | (simp [V.one] at h1; done)
    · exact ones_spec h1.2 hl x hx
/-- Cells are stored one behind the other. -/
theorem run_storeCells (P : Program) (c o elem : Nat) (fz : Nat × Nat) : ∀ (vs : List Value) (i : Nat) (cs : Array Value) (w : World), w.heap[c]? = some (.cells cs elem fz) → o + i + vs.length ≤ cs.size →
    (∀ k, k < cs.size → ¬ (fz.1 ≤ k ∧ k < fz.2)) → (∀ x ∈ vs, x.oneCell' = true) →
    ∃ cs' w', (storeCells ⟨c, o, none⟩ vs i).run P w = .ok () w' ∧ w'.heap[c]? = some (.cells cs' elem fz) ∧ cs'.size = cs.size ∧ Upd c w w' ∧
      ∀ k, cs'[k]? = if o + i ≤ k ∧ k < o + i + vs.length then vs[k - (o + i)]? else cs[k]?
  | [], i, cs, w, h0, _, _, _ => ⟨cs, w, rfl, h0, rfl, .refl _ _, fun k => by rw [if_neg (by simp <;> omega)]⟩
  | v :: vs, i, cs, w, h0, hlen, hfz, h1 => by
    simp only [List.length_cons] at hlen
    have hcell : w.cell? ⟨c, o + i, none⟩ = some (cs[o + i]'(by omega)) := by rw [cell?_of h0]; exact Array.getElem?_eq_getElem (by omega)
    have hfr : w.frozen? ⟨c, o + i, none⟩ = false := by
      simp only [World.frozen?, h0]
      have := hfz (o + i) (by omega)
      simpa using this
    have hlt : c < w.heap.size := (Array.getElem?_eq_some_iff.1 h0).1
    have hset : (w.setCell ⟨c, o + i, none⟩ v).heap[c]? = some (.cells (cs.setIfInBounds (o + i) v) elem fz) := by
      simp [World.setCell, Array.getElem?_modify, h0]
    obtain ⟨cs', w', hrun, h0', hs', hu, hg⟩ := run_storeCells P c o elem fz vs (i + 1) (cs.setIfInBounds (o + i) v) (w.setCell ⟨c, o + i, none⟩ v) hset (by simp; omega) (by simpa using hfz) (fun x hx => h1 x (List.mem_cons_of_mem _ hx))
    refine ⟨cs', w', ?_, h0', by simpa using hs', Upd.trans (b := w.setCell ⟨c, o + i, none⟩ v) ⟨rfl, rfl, rfl, by simp [World.setCell], fun k hk => Below.heap_setCell w _ v k hk⟩ hu, fun k => ?_⟩
    · unfold storeCells
      simp only [Sem.run_bind, add_none, run_store P w _ v .plain (h1 v (List.mem_cons_self ..)), hcell, hfr, Bool.false_eq_true, if_false, Result.andThen]
      exact hrun
    · rw [hg k, List.length_cons]
      by_cases hk : o + (i + 1) ≤ k ∧ k < o + (i + 1) + vs.length
      · rw [if_pos hk, if_pos (by omega)]
        obtain ⟨q, hq⟩ : ∃ q, k - (o + i) = q + 1 := ⟨k - (o + i) - 1, by omega⟩
        rw [hq, List.getElem?_cons_succ]; congr 1; omega
      · rw [if_neg hk]
        by_cases he : k = o + i
        · subst he; rw [if_pos (by omega)]; simp [show o + i < cs.size by omega]
        · rw [if_neg (by omega), Array.getElem?_setIfInBounds_ne (Ne.symm he)]
theorem cellAt_eq {t : T V} {size : Nat} {z : List V} {i : Nat} : cellAt t size z i = if i < size then (match t.get i with | some v => some v | none => zget z i) else none := by
  unfold cellAt
  by_cases h : i < size
  · rw [if_pos h, Nat.ble_eq_true_of_le h] <;> rfl
  · rw [if_neg h]
    cases hb : Nat.ble (Nat.succ i) size with
    | true => exact absurd (Nat.le_of_ble_eq_true hb) h
    | false => rfl
theorem cellAt_lt {t : T V} {size : Nat} {z : List V} {i : Nat} {v : V} (h : cellAt t size z i = some v) : i < size := by
  rw [cellAt_eq] at h
  split at h
  · assumption
  · cases h
theorem cellAt_grow {t : T V} {size : Nat} {z vs : List V} {i : Nat} {v : V} (h : cellAt (sets vs t size) (size + vs.length) z i = some v) : (i < size ∧ cellAt t size z i = some v) ∨ (size ≤ i ∧ vs[i - size]? = some v) := by
  have hlt := cellAt_lt h
  rw [cellAt_eq, if_pos hlt, get_sets] at h
  by_cases hi : i < size
  · rw [if_neg (by omega)] at h
    exact .inl ⟨hi, by rw [cellAt_eq, if_pos hi]; exact h⟩
  · rw [if_pos ⟨by omega, hlt⟩] at h
    rw [List.getElem?_eq_getElem (by omega)] at h ⊢
    exact .inr ⟨by omega, h⟩
theorem cellAt_sets {t : T V} {size : Nat} {z : List V} (vs : List V) (i j : Nat) (hle : i + vs.length ≤ size) : cellAt (sets vs t i) size z j = if i ≤ j ∧ j < i + vs.length then vs[j - i]? else cellAt t size z j := by
  rw [cellAt_eq, cellAt_eq, get_sets]
  by_cases hc : i ≤ j ∧ j < i + vs.length
  · rw [if_pos hc, if_pos hc, if_pos (by omega)]
    have : j - i < vs.length := by omega
    rw [List.getElem?_eq_getElem this]
  · rw [if_neg hc, if_neg hc]
theorem storeK_ok {β : Type} (hr : HR P w0 r h w) {b o c : Nat} {vs : List V} {xs : List Value} {k : H → Option β} {res : β} (hc : r.at_ b = some c) (hv : VRs r vs xs)
    (hk : storeK h b o vs none k = some res) : ∃ h' w', HR P w0 r h' w' ∧ (storeCells ⟨c, r.sh b + o, none⟩ xs).run P w = .ok () w' ∧ k h' = some res ∧ Upd c w w' ∧ h'.nx = h.nx := by
  unfold storeK at hk
  cases hb : h.t.get b with
  | none => rw [hb] at hk; cases hk
  | some ob =>
    rw [hb] at hk
    cases ob with
    | cells elem rw opn size z t =>
      cases rw with
      | false => cases hk
      | true =>
        dsimp only at hk
        cases hs : (Nat.ble (Nat.add o vs.length) size && ones vs) with
        | false => rw [hs] at hk; cases hk
        | true =>
          rw [hs] at hk
          simp only [Bool.and_eq_true] at hs
          have hle : o + vs.length ≤ size := Nat.le_of_ble_eq_true hs.1
          dsimp only at hk
          rw [setsK_eq, T.setK_eq] at hk
          obtain ⟨cs, fz, h0, h1, h2, h3, h4⟩ := hr.cells hb hc
          have hl := hv.length
          obtain ⟨cs', w', hrun, h0', hs', hu, hg⟩ := run_storeCells P c (r.sh b + o) elem fz xs 0 cs w h0 (by omega) (h1 rfl) (ones_spec hs.2 hv)
          refine ⟨_, w', hr.upd (o' := .cells elem true opn size z (sets vs t o)) hb rfl rfl hc hu fun _ => ⟨cs', fz, h0', fun _ => by rw [hs']; exact h1 rfl, ?_, by rw [hs']; exact h3, fun ho => by rw [hs']; exact h4.1 ho, fun ho => by rw [hs']; exact h4.2 ho⟩, hrun, hk, hu, rfl⟩
          intro i v hi
          rw [cellAt_sets _ _ _ hle] at hi
          rw [hg (r.sh b + i)]
          by_cases hi' : o ≤ i ∧ i < o + vs.length
          · rw [if_pos hi'] at hi
            obtain ⟨x, hx, hvr⟩ := hv.get hi
            exact ⟨x, by rw [if_pos (by omega), show r.sh b + i - (r.sh b + o + 0) = i - o by omega]; exact hx, hvr⟩
          · rw [if_neg hi'] at hi
            obtain ⟨x, hx, hvr⟩ := h2 i v hi
            exact ⟨x, by rw [if_neg (by omega)]; exact hx, hvr⟩
    | _ => cases hk
theorem cellAt_new (vs : List V) {n i : Nat} {v : V} (h : cellAt (sets vs T.e 0) n [] i = some v) : vs[i]? = some v := by
  have hlt := cellAt_lt h
  rw [cellAt_eq, if_pos hlt, get_sets] at h
  by_cases hc : 0 ≤ i ∧ i < 0 + vs.length
  · rw [if_pos hc] at h
    rw [List.getElem?_eq_getElem (by omega)] at h ⊢
    simpa using h
  · rw [if_neg hc, T.get_e] at h
    cases h
/-- A new row of cells. -/
theorem newK_ok {β : Type} (hr : HR P w0 r h w) {elem : Nat} {opn : Bool} {vs : List V} {cs : List Value} {xs : Array Value} {kcap : Nat} {fz : Nat × Nat} {k : Nat → H → β} {res : β}
    (hv : VRs r vs cs) (hp : ∀ (i : Nat) (x : Value), cs[i]? = some x → xs[i]? = some x) (hsz : vs.length ≤ xs.size) (hf : ∀ i, i < xs.size → ¬ (fz.1 ≤ i ∧ i < fz.2)) (ho : opn = true → xs.size = kcap * P.cellsOf elem) (hcl : opn = false → xs.size = vs.length)
    (hk : newK h elem opn vs k = res) : ∃ h' r', HR P w0 r' h' (w.alloc (.cells xs elem fz)) ∧ r.le r' ∧ r'.at_ h.nx = some w.heap.size ∧ r'.cap h.nx = kcap ∧ r'.sh h.nx = 0 ∧ k h.nx h' = res := by
  unfold newK at hk
  rw [setsK_eq, natK_eq, natK_eq, T.setK_eq] at hk
  obtain ⟨h1, h2⟩ := hr.new (.cells xs elem fz) (.cells elem true opn vs.length [] (sets vs T.e 0)) kcap ⟨xs, fz, rfl, fun _ => hf, fun i v hi => by
      obtain ⟨x, hx, hvr⟩ := hv.get (cellAt_new vs hi)
      exact ⟨x, by rw [Ren.ext_sh, Nat.zero_add]; exact hp i x hx, hvr.mono (Ren.ext_le hr.none_nx)⟩, by rw [Ren.ext_sh, Nat.zero_add]; exact hsz, fun h => by rw [Ren.ext_cap, Ren.ext_sh, Nat.zero_add]; exact ho h, fun h => ⟨Ren.ext_sh .., hcl h⟩⟩
  exact ⟨_, _, h1, h2, Ren.ext_at .., Ren.ext_cap .., Ren.ext_sh .., hk⟩
theorem newObjK_okc {β : Type} (hr : HR P w0 r h w) {o : Obj} {ao : AObj} {k : Nat → H → β} {res : β} {kc : Nat} (ho : OR P (r.ext h.nx w.heap.size kc) (some o) h.nx ao) (hk : newObjK h ao k = res) :
    ∃ h' r', HR P w0 r' h' (w.alloc o) ∧ r.le r' ∧ (r'.at_ h.nx = some w.heap.size ∧ r'.cap h.nx = kc) ∧ r'.sh h.nx = 0 ∧ k h.nx h' = res := by
  unfold newObjK at hk
  rw [natK_eq, T.setK_eq] at hk
  obtain ⟨h1, h2⟩ := hr.new o ao kc ho
  exact ⟨_, _, h1, h2, ⟨Ren.ext_at .., Ren.ext_cap ..⟩, Ren.ext_sh .., hk⟩
theorem newObjK_ok {β : Type} (hr : HR P w0 r h w) {o : Obj} {ao : AObj} {k : Nat → H → β} {res : β} (ho : OR P (r.ext h.nx w.heap.size 0) (some o) h.nx ao) (hk : newObjK h ao k = res) :
    ∃ h' r', HR P w0 r' h' (w.alloc o) ∧ r.le r' ∧ r'.at_ h.nx = some w.heap.size ∧ r'.sh h.nx = 0 ∧ k h.nx h' = res := by
  unfold newObjK at hk
  rw [natK_eq, T.setK_eq] at hk
  obtain ⟨h1, h2⟩ := hr.new o ao 0 ho
  exact ⟨_, _, h1, h2, Ren.ext_at .., Ren.ext_sh .., hk⟩
end
end
end Go.Ev
