/- A step machine over known data: what a call computes where all that it reads is known. Definitions. -/
import Derived.WalkKit
import Derived.Below
namespace Go.Ev
open Go

inductive T (α : Type) where
  | e
  | n (v : Option α) (l r : T α)

noncomputable section
def T.get {α : Type} (t : T α) : Nat → Option α :=
  T.rec (motive := fun _ => Nat → Option α) (fun _ => none)
    (fun v _ _ ihl ihr i => Nat.rec (motive := fun _ => Option α) v (fun i' _ => Bool.rec (motive := fun _ => Option α) (ihr (Nat.div i' 2)) (ihl (Nat.div i' 2)) (Nat.beq (Nat.mod i' 2) 0)) i) t
def T.singleK {α β : Type} (x : α) (f : Nat) : Nat → (T α → β) → β :=
  Nat.rec (motive := fun _ => Nat → (T α → β) → β) (fun _ k => k (.n (some x) .e .e))
   (fun _ ih i k => Nat.rec (motive := fun _ => β) (k (.n (some x) .e .e)) (fun i' _ => Bool.rec (motive := fun _ => β) (ih (Nat.div i' 2) (fun t => k (.n none .e t))) (ih (Nat.div i' 2) (fun t => k (.n none t .e))) (Nat.beq (Nat.mod i' 2) 0)) i) f
def T.setK {α β : Type} (x : α) (t : T α) : Nat → (T α → β) → β :=
  T.rec (motive := fun _ => Nat → (T α → β) → β) (fun i k => T.singleK x i i k)
    (fun v l r ihl ihr i k => Nat.rec (motive := fun _ => β) (k (.n (some x) l r)) (fun i' _ => Bool.rec (motive := fun _ => β) (ihr (Nat.div i' 2) (fun t => k (.n v l t))) (ihl (Nat.div i' 2) (fun t => k (.n v t r))) (Nat.beq (Nat.mod i' 2) 0)) i) t
def natK {β : Type} (n : Nat) (k : Nat → β) : β := Nat.casesOn n (k 0) (fun m => k (Nat.succ m))
def intK {β : Type} (i : Int) (k : Int → β) : β :=
  match i with
  | .ofNat m => natK m fun m => k (.ofNat m)
  | .negSucc m => natK m fun m => k (.negSucc m)

inductive Cap where
  | exact (n : Nat)
  | upto (j : Nat)

inductive V where
  | bool (b : Bool)
  | int (k : IntKind) (n : Int)
  | str (s : List Nat)
  | nilp
  | ptr (b off : Nat)
  | nils
  | sl (b off len : Nat) (cap : Cap)
  | nilm
  | map (b : Nat)
  | fn (f : Nat) (first cap : List V)
  | yld (l : Nat)
  | nilFunc
  | nilIface
  | iface (t : Nat) (v : V)
  | agg (cs : List V)
  | tup (vs : List V)
  | emp
  | unk

/-- A deferred call, or the mark of a range over a function. -/
inductive AD where
  | call (f : Nat) (args : List V)
  | mark (r : Nat)

inductive AObj where
  | dead
  | cells (elem : Nat) (rw opn : Bool) (size : Nat) (z : List V) (t : T V)
  | map (es : List (V × V × Nat)) (clock : Nat)
  | mapIter (m : Option Nat) (since : Nat) (seen : List Nat) (stepped : Nat)
  | mapIterU (m : Nat) (since : Nat) (stamps : List Nat) (cnt : Nat) (stepped : Nat)
  | strIter (s : List Nat) (pos : Nat)
  | loop (st : LoopState) (pending : Option Code) (fn : Nat) (n : Nat) (tm : T V) (params : List Tmp) (assign body : Code) (dfs : Nat)
  | dfr
  | dfrNone

structure H where
  t : T AObj
  nx : Nat

/-- A step of the plan of a region that draws its order: an operation that only reads, one that only lays a block, or one that acts, with those that may still be outstanding behind it. -/
inductive PS where
  | rd (o : Oper) (rc : List Oper)
  | al (o : Oper) (rc : List Oper)
  | act (o : Oper) (rc : List Oper)
inductive PI where
  | rd (i : Nat)
  | al (i : Nat)
  | act (i : Nat) (rc : List Nat)

inductive AI where
  | code (c : Code)
  | inBlock (id : Nat)
  | inLoop (body : Code)
  | inScope (body : Code)
  | reg (ops : Array Oper) (rest : List Oper)
  | dreg (ops : Array Oper) (plan : List PS)
  | inRF (l : Nat)
  | endRF (l : Nat)
  | beginRound

structure AF where
  fn : Nat
  n : Nat
  tm : T V
  todo : List AI
  dfs : List AD
  ret : Bool
  dk : Bool
  rnd : Option Nat

structure S where
  top : AF
  rest : List AF
  h : H

-- numbers
def modK : IntKind → Nat
  | .i8 | .u8 => 256
  | .i16 | .u16 => 65536
  | .i32 | .u32 => 4294967296
  | .i64 | .u64 => 18446744073709551616
def halfK : IntKind → Nat
  | .i8 | .u8 => 128
  | .i16 | .u16 => 32768
  | .i32 | .u32 => 2147483648
  | .i64 | .u64 => 9223372036854775808
def bitsK : IntKind → Nat
  | .i8 | .u8 => 8
  | .i16 | .u16 => 16
  | .i32 | .u32 => 32
  | .i64 | .u64 => 64
def adj (k : IntKind) (r : Nat) : Int :=
  match k.signed with
  | true => match Nat.ble (halfK k) r with
    | true => .negSucc (Nat.sub (Nat.sub (modK k) r) 1)
    | false => .ofNat r
  | false => .ofNat r
def toU (k : IntKind) (n : Int) : Nat :=
  match n with
  | .ofNat m => Nat.mod m (modK k)
  | .negSucc m => Nat.sub (Nat.sub (modK k) 1) (Nat.mod m (modK k))
def wrapF (k : IntKind) (n : Int) : Int := adj k (toU k n)
def ltF (x y : Int) : Bool :=
  match x with
  | .ofNat a => match y with
    | .ofNat b => Nat.ble (Nat.succ a) b
    | .negSucc _ => false
  | .negSucc a => match y with
    | .ofNat _ => true
    | .negSucc b => Nat.ble (Nat.succ b) a
def eqF (x y : Int) : Bool :=
  match x with
  | .ofNat a => match y with
    | .ofNat b => Nat.beq a b
    | .negSucc _ => false
  | .negSucc a => match y with
    | .ofNat _ => false
    | .negSucc b => Nat.beq a b
def kindEq (a b : IntKind) : Bool :=
  match a, b with
  | .i8, .i8 | .i16, .i16 | .i32, .i32 | .i64, .i64 | .u8, .u8 | .u16, .u16 | .u32, .u32 | .u64, .u64 => true
  | _, _ => false
def shlF (k : IntKind) (x y : Int) : Option Int :=
  match y with
  | .ofNat s => some (wrapF k (Int.mul x (.ofNat (Nat.pow 2 (Nat.min s (bitsK k))))))
  | .negSucc _ => none
def shrF (k : IntKind) (x y : Int) : Option Int :=
  match y with
  | .ofNat s => match x with
    | .ofNat m => some (.ofNat (Nat.div m (Nat.pow 2 (Nat.min s (bitsK k)))))
    | .negSucc m => some (.negSucc (Nat.div m (Nat.pow 2 (Nat.min s (bitsK k)))))
  | .negSucc _ => none
def intOp (op : BinOp) (k : IntKind) (x y : Int) : Option V :=
  match op with
  | .add => some (.int k (wrapF k (Int.add x y)))
  | .sub => some (.int k (wrapF k (Int.sub x y)))
  | .mul => some (.int k (wrapF k (Int.mul x y)))
  | .quo => match eqF y (.ofNat 0) with | true => none | false => some (.int k (wrapF k (Int.tdiv x y)))
  | .rem => match eqF y (.ofNat 0) with | true => none | false => some (.int k (Int.tmod x y))
  | .and => some (.int k (adj k (Nat.land (toU k x) (toU k y))))
  | .or => some (.int k (adj k (Nat.lor (toU k x) (toU k y))))
  | .xor => some (.int k (adj k (Nat.xor (toU k x) (toU k y))))
  | .andNot => some (.int k (adj k (Nat.land (toU k x) (Nat.sub (Nat.sub (modK k) 1) (toU k y)))))
  | .eql => some (.bool (eqF x y))
  | .neq => some (.bool (!eqF x y))
  | .lss => some (.bool (ltF x y))
  | .leq => some (.bool (!ltF y x))
  | .gtr => some (.bool (ltF y x))
  | .geq => some (.bool (!ltF x y))
  | _ => none
def leqL : List Nat → List Nat → Bool
  | [], [] => true
  | a :: x, b :: y => match Nat.beq a b with | true => leqL x y | false => false
  | _, _ => false
def lessL : List Nat → List Nat → Bool
  | _, [] => false
  | [], _ :: _ => true
  | a :: x, b :: y => match Nat.ble (Nat.succ a) b with
    | true => true
    | false => match Nat.beq a b with | true => lessL x y | false => false
def strOp (op : BinOp) (x y : List Nat) : Option V :=
  match op with
  | .add => match Nat.ble (Nat.add x.length y.length) 1000000000 with | true => some (.str (x ++ y)) | false => none
  | .eql => some (.bool (leqL x y))
  | .neq => some (.bool (!leqL x y))
  | .lss => some (.bool (lessL x y))
  | .leq => some (.bool (lessL x y || leqL x y))
  | .gtr => some (.bool (!(lessL x y || leqL x y)))
  | .geq => some (.bool (!lessL x y))
  | _ => none

-- normal forms
def natsK {β : Type} : List Nat → (List Nat → β) → β
  | [], k => k []
  | a :: l, k => natK a fun a => natsK l fun l => k (a :: l)
def nf0K {β : Type} (v : V) (k : V → β) : β :=
  match v with
  | .int i n => intK n fun n => k (.int i n)
  | .bool b => match b with | true => k (.bool true) | false => k (.bool false)
  | .ptr b o => natK b fun b => natK o fun o => k (.ptr b o)
  | .sl b o n c => natK b fun b => natK o fun o => natK n fun n => match c with
    | .exact m => natK m fun m => k (.sl b o n (.exact m))
    | .upto m => natK m fun m => k (.sl b o n (.upto m))
  | .str s => natsK s fun s => k (.str s)
  | v => k v
def nfsK {β : Type} : List V → (List V → β) → β
  | [], k => k []
  | a :: l, k => nf0K a fun a => nfsK l fun l => k (a :: l)
def nfK {β : Type} (v : V) (k : V → β) : β :=
  match v with
  | .agg cs => nfsK cs fun cs => k (.agg cs)
  | .tup cs => nfsK cs fun cs => k (.tup cs)
  | .iface t v => nf0K v fun v => k (.iface t v)
  | v => nf0K v k

-- types
def tyI (P : Program) (t : Nat) : Option (Bool × Nat) :=
  match P.underlying t, P.info? t with
  | some d, some i => some (match d with | .struct _ => true | .array _ _ => true | _ => false, i.size)
  | _, _ => none
def ofVal0 (v : Value) : Option V :=
  match v with
  | .bool b => some (.bool b)
  | .int k n => some (.int k n)
  | .string s => some (.str (s.data.toList.map UInt8.toNat))
  | .pointer none => some .nilp
  | .slice none 0 0 => some .nils
  | .map none => some .nilm
  | .nilFunc => some .nilFunc
  | .nilIface => some .nilIface
  | _ => none
def ofVals : List Value → Option (List V)
  | [] => some []
  | v :: l => match ofVal0 v with
    | some a => match ofVals l with
      | some l => some (a :: l)
      | none => none
    | none => none
def ofVal (v : Value) : Option V :=
  match v with
  | .agg cs => match ofVals cs.toList with | some l => some (.agg l) | none => none
  | v => ofVal0 v
def zeroV (P : Program) (t : Nat) : Option V :=
  match P.info? t with
  | some i => match i.zero with | some v => ofVal v | none => none
  | none => none
def V.cells : V → List V
  | .agg cs => cs
  | v => [v]
def V.cellsO : V → Option (List V)
  | .agg cs => some cs
  | .unk => none
  | v => some [v]
def ev (tm : Nat → Option V) (x : Operand) : Option V :=
  match x with
  | .tmp t => tm t
  | .const v => ofVal v
  | .global g => match Nat.ble (Nat.succ g) 1000 with | true => some (.ptr g 0) | false => none
  | .func f => some (.fn f [] [])
def evs (tm : Nat → Option V) : List Operand → Option (List V)
  | [] => some []
  | x :: l => match ev tm x with
    | some a => match evs tm l with
      | some l => some (a :: l)
      | none => none
    | none => none
def evParts (tm : Nat → Option V) : List (Nat × Operand) → Option (List (Nat × V))
  | [] => some []
  | x :: l => match ev tm x.2 with
    | some a => match evParts tm l with
      | some l => some ((x.1, a) :: l)
      | none => none
    | none => none

-- cells
def zget (z : List V) (i : Nat) : Option V :=
  match z with
  | [] => none
  | [x] => some x
  | z => z[Nat.mod i z.length]?
def cellAt (t : T V) (size : Nat) (z : List V) (i : Nat) : Option V :=
  match t.get i with
  | some v => some v
  | none => match Nat.ble (Nat.succ i) size with
    | true => zget z i
    | false => none
def cellsAt (t : T V) (size : Nat) (z : List V) (off n : Nat) : List V → Option (List V) :=
  Nat.rec (motive := fun _ => List V → Option (List V)) (fun acc => some acc)
    (fun m ih acc => match cellAt t size z (Nat.add off m) with
      | some v => ih (v :: acc)
      | none => none) n
def loadN (h : H) (b off n : Nat) : Option (List V) :=
  match h.t.get b with
  | some (.cells _ _ _ size z t) => cellsAt t size z off n []
  | _ => none
def load1 (h : H) (b off : Nat) : Option V :=
  match h.t.get b with
  | some (.cells _ _ _ size z t) => cellAt t size z off
  | _ => none
def loadT (P : Program) (h : H) (t b off : Nat) : Option V :=
  match tyI P t with
  | some (true, n) => match loadN h b off n with | some l => some (.agg l) | none => none
  | some (false, _) => load1 h b off
  | none => none
def V.one : V → Bool
  | .agg _ => false
  | .tup _ => false
  | .unk => false
  | _ => true
def ones : List V → Bool
  | [] => true
  | v :: l => v.one && ones l
def setsK {β : Type} (vs : List V) : T V → Nat → (T V → β) → β :=
  List.rec (motive := fun _ => T V → Nat → (T V → β) → β) (fun t _ k => k t)
    (fun v _ ih t i k => T.setK v t i fun t => natK (Nat.succ i) fun i => ih t i k) vs
/-- Cells stored into a block that may be written, within its known size. -/
def storeK {β : Type} (h : H) (b off : Nat) (vs : List V) (none' : β) (k : H → β) : β :=
  match h.t.get b with
  | some (.cells e true opn size z t) =>
    match Nat.ble (Nat.add off vs.length) size && ones vs with
    | true => setsK vs t off fun t => T.setK (.cells e true opn size z t) h.t b fun ht => k ⟨ht, h.nx⟩
    | false => none'
  | _ => none'
/-- A new block of given cells. -/
def newK {β : Type} (h : H) (elem : Nat) (opn : Bool) (vs : List V) (k : Nat → H → β) : β :=
  setsK vs .e 0 fun t => natK vs.length fun n => natK h.nx fun nx => T.setK (.cells elem true opn n [] t) h.t nx fun ht => k nx ⟨ht, Nat.succ nx⟩
def newObjK {β : Type} (h : H) (o : AObj) (k : Nat → H → β) : β :=
  natK h.nx fun nx => T.setK o h.t nx fun ht => k nx ⟨ht, Nat.succ nx⟩

-- keys
def keyEq (a b : V) : Option Bool :=
  match a, b with
  | .int k x, .int j y => match kindEq k j with | true => some (eqF x y) | false => none
  | .str x, .str y => some (leqL x y)
  | _, _ => none
def kfind (key : V) : List (V × V × Nat) → Nat → Option (Option (Nat × V))
  | [], _ => some none
  | e :: es, i => match keyEq key e.1 with
    | some true => some (some (i, e.2.1))
    | some false => kfind key es (Nat.succ i)
    | none => none
/-- The types of keys that are looked up by their value: strings and integers. -/
def plainKey (P : Program) (kt : Nat) (key : V) : Bool :=
  match P.underlying kt, key with
  | some .string, .str _ => true
  | some (.int i), .int k _ => kindEq k i
  | _, _ => false
def mset (es : List (V × V × Nat)) (i : Nat) (key val : V) : List (V × V × Nat) :=
  match es with
  | [] => []
  | e :: es => match i with
    | 0 => (key, val, e.2.2) :: es
    | i + 1 => e :: mset es i key val
def beq0 (a b : V) : Bool :=
  match a, b with
  | .bool x, .bool y => match x, y with | true, true => true | false, false => true | _, _ => false
  | .int k x, .int j y => match kindEq k j with | true => eqF x y | false => false
  | .str x, .str y => leqL x y
  | .nilp, .nilp | .nils, .nils | .nilm, .nilm | .nilFunc, .nilFunc | .nilIface, .nilIface | .emp, .emp => true
  | .ptr b o, .ptr c p => match Nat.beq b c with | true => Nat.beq o p | false => false
  | .sl b o n (.exact x), .sl c p m (.exact y) => Nat.beq b c && (Nat.beq o p && (Nat.beq n m && Nat.beq x y))
  | .sl b o n (.upto x), .sl c p m (.upto y) => Nat.beq b c && (Nat.beq o p && (Nat.beq n m && Nat.beq x y))
  | .map b, .map c => Nat.beq b c
  | _, _ => false
def beqs (f : V → V → Bool) : List V → List V → Bool
  | [], [] => true
  | a :: x, b :: y => match f a b with | true => beqs f x y | false => false
  | _, _ => false
def beqW (f : V → V → Bool) (a b : V) : Bool :=
  match a, b with
  | .agg x, .agg y => beqs f x y
  | .tup x, .tup y => beqs f x y
  | .fn p x y, .fn q z w => Nat.beq p q && (beqs f x z && beqs f y w)
  | .iface t x, .iface u y => Nat.beq t u && f x y
  | a, b => beq0 a b
def beqV (a b : V) : Bool := beqW (beqW beq0) a b

-- equality of Go
def isConst : Operand → Bool
  | .const _ => true
  | _ => false
def cellEqT (P : Program) (t : Nat) (a b : V) : Option Bool :=
  match P.underlying t, a, b with
  | some .bool, .bool x, .bool y => some (x == y)
  | some (.int _), .int k x, .int j y => match kindEq k j with | true => some (eqF x y) | false => none
  | some .string, .str x, .str y => some (leqL x y)
  | _, _, _ => none
/-- Structs whose fields are strings, integers, truth values, one behind the other. -/
def eqFs (P : Program) : List Field → Nat → List V → List V → Option Bool
  | [], _, [], [] => some true
  | f :: fs, i, a :: x, b :: y => match Nat.beq f.offset i && f.name != "_" with
    | true => match cellEqT P f.type a b with
      | some true => eqFs P fs (Nat.succ i) x y
      | some false => some false
      | none => none
    | false => none
  | _, _, _, _ => none
def eqV (P : Program) (t : Nat) (x y : V) (c : Bool) : Option Bool :=
  match P.underlying t, x, y with
  | some .bool, .bool a, .bool b => some (a == b)
  | some (.pointer _), .nilp, .nilp => some true
  | some (.pointer _), .nilp, .ptr _ _ => some false
  | some (.pointer _), .ptr _ _, .nilp => some false
  | some (.interface _), .nilIface, .nilIface => match c with | true => some true | false => none
  | some (.interface _), .nilIface, .iface _ _ => some false
  | some (.interface _), .iface _ _, .nilIface => some false
  | some (.slice _), .nils, .nils => some true
  | some (.slice _), .nils, .sl _ _ _ _ => some false
  | some (.slice _), .nils, .emp => some false
  | some (.slice _), .emp, .nils => some false
  | some (.slice _), .sl _ _ _ _, .nils => some false
  | some (.map _ _), .nilm, .nilm => some true
  | some (.map _ _), .nilm, .map _ => some false
  | some (.map _ _), .map _, .nilm => some false
  | some (.func _ _ _), .nilFunc, .nilFunc => some true
  | some (.func _ _ _), .nilFunc, .fn _ _ _ => some false
  | some (.func _ _ _), .fn _ _ _, .nilFunc => some false
  | some (.struct fs), .agg a, .agg b => match !P.stoodInHeld t && !P.eqGuardType P.depth t with
    | true => eqFs P fs.toList 0 a b
    | false => none
  | _, _, _ => none
def binV (P : Program) (op : BinOp) (t : Nat) (xo yo : Operand) (x y : V) : Option V :=
  match x, y with
  | .int k a, .int j b =>
    match op with
    | .shl => match shlF k a b with | some r => some (.int k r) | none => none
    | .shr => match shrF k a b with | some r => some (.int k r) | none => none
    | op => match kindEq k j with | true => intOp op k a b | false => none
  | .str a, .str b => strOp op a b
  | x, y => match op with
    | .eql => match eqV P t x y (isConst xo || isConst yo) with | some b => some (.bool b) | none => none
    | .neq => match eqV P t x y (isConst xo || isConst yo) with | some b => some (.bool (!b)) | none => none
    | _ => none

-- structs, slices
def fieldI (P : Program) (t f : Nat) : Option (Nat × Nat × Bool) :=
  match P.underlying t with
  | some (.struct fs) => match fs[f]? with
    | some fd => match tyI P fd.type with
      | some (g, n) => some (fd.offset, n, g)
      | none => none
    | none => none
  | _ => none
def part (g : Bool) (cs : List V) (off n : Nat) : Option V :=
  match g with
  | true => some (.agg ((cs.drop off).take n))
  | false => cs[off]?
def fillAt (vc : List V) (off : Nat) (cells : List V) : List V :=
  match vc with
  | [] => cells
  | v :: vc => fillAt vc (Nat.succ off) (cells.set off v)
def fillL (place : Nat → Option (Nat × Nat)) (cells : List V) : List (Nat × V) → Option (List V)
  | [] => some cells
  | (i, v) :: rest =>
    match place i with
    | none => none
    | some (off, size) => match v.cellsO with
      | none => none
      | some vc => match Nat.beq vc.length size with
        | false => none
        | true => match Nat.ble (Nat.add off size) cells.length with
          | false => none
          | true => fillL place (fillAt vc off cells) rest
def placesL (P : Program) : List Field → Option (List (Nat × Nat))
  | [] => some []
  | f :: fs => match P.info? f.type with
    | some i => match placesL P fs with
      | some l => some ((f.offset, i.size) :: l)
      | none => none
    | none => none
def placesT (P : Program) (t : Nat) : Option (List (Nat × Nat)) :=
  match P.underlying t with
  | some (.struct fs) => placesL P fs.toList
  | _ => none
def buildV (P : Program) (t : Nat) (parts : List (Nat × V)) : Option V :=
  match zeroV P t with
  | some z => match P.underlying t with
    | some (.struct _) => match placesT P t with
      | some pl => match fillL (fun i => pl[i]?) z.cells parts with | some l => some (.agg l) | none => none
      | none => none
    | some (.array _ elem) => match tyI P elem with
      | some (_, n) => match fillL (fun i => some (Nat.mul i n, n)) z.cells parts with | some l => some (.agg l) | none => none
      | none => none
    | _ => none
  | none => none
def sliceElem (P : Program) (t : Nat) : Option (Nat × Nat × Bool) :=
  match P.underlying t with
  | some (.slice elem) => match tyI P elem with
    | some (g, n) => some (elem, n, g)
    | none => none
  | _ => none
def repl (z : List V) : Nat → List V → List V
  | 0, acc => acc
  | n + 1, acc => repl z n (z ++ acc)
/-- How many elements of a slice's block are known to be there from the slice's first on. -/
def known (P : Program) (h : H) (b off esz j : Nat) : Option Nat :=
  match h.t.get b with
  | some (.cells e _ opn size _ _) => match tyI P e with
    | some (_, n) => match Nat.ble off size && (opn && (Nat.beq off (Nat.mul j esz) && Nat.beq n esz)), esz with
      | true, e + 1 => some (Nat.div (Nat.sub size off) (Nat.succ e))
      | _, _ => none
    | none => none
  | _ => none
def optNat (tm : Nat → Option V) (x : Option Operand) (d : Nat) : Option Nat :=
  match x with
  | none => some d
  | some x => match ev tm x with
    | some (.int _ (.ofNat n)) => some n
    | _ => none
def sliceV (P : Program) (tm : Nat → Option V) (h : H) (t : Nat) (x : V) (lo hi mx : Option Operand) : Option V :=
  match P.underlying t, x with
  | some .string, .str s =>
    match mx with
    | some _ => none
    | none => match optNat tm hi s.length with
      | some hh => match optNat tm lo 0 with
        | some l => match Nat.ble l hh with
          | true => match Nat.ble hh s.length with
            | true => some (.str ((s.take hh).drop l))
            | false => none
          | false => none
        | none => none
      | none => none
  | some (.slice elem), .nils =>
    match optNat tm mx 0, tyI P elem with
    | some 0, some _ => match optNat tm hi 0 with
      | some 0 => match optNat tm lo 0 with
        | some 0 => some .nils
        | _ => none
      | _ => none
    | _, _ => none
  | some (.slice elem), .sl b off len cap =>
    match tyI P elem with
    | none => none
    | some (_, esz) => match cap with
      | .exact c => match optNat tm mx c with
        | none => none
        | some m => match optNat tm hi len with
          | none => none
          | some hh => match optNat tm lo 0 with
            | none => none
            | some l => match Nat.ble l hh with
              | false => none
              | true => match Nat.ble hh m with
                | false => none
                | true => match Nat.ble m c with
                  | false => none
                  | true => some (.sl b (match Nat.beq m l with | true => off | false => Nat.add off (Nat.mul l esz)) (Nat.sub hh l) (.exact (Nat.sub m l)))
      | .upto j => match known P h b off esz j with
        | none => none
        | some kn => match mx with
          | some mo => match optNat tm (some mo) 0 with
            | none => none
            | some m => match optNat tm hi len with
              | none => none
              | some hh => match optNat tm lo 0 with
                | none => none
                | some l => match Nat.ble l hh with
                  | false => none
                  | true => match Nat.ble hh m with
                    | false => none
                    | true => match Nat.ble m kn with
                      | false => none
                      | true => some (.sl b (match Nat.beq m l with | true => off | false => Nat.add off (Nat.mul l esz)) (Nat.sub hh l) (.exact (Nat.sub m l)))
          | none => match optNat tm hi len with
            | none => none
            | some hh => match optNat tm lo 0 with
              | none => none
              | some l => match Nat.ble l hh with
                | false => none
                | true => match Nat.ble hh kn with
                  | false => none
                  | true => match l with
                    | 0 => some (.sl b off hh (.upto j))
                    | l + 1 => match Nat.ble (Nat.succ (Nat.succ l)) kn with
                      | true => some (.sl b (Nat.add off (Nat.mul (Nat.succ l) esz)) (Nat.sub hh (Nat.succ l)) (.upto (Nat.add j (Nat.succ l))))
                      | false => some .emp
  | _, _ => none
def hiOk (hi mx : Option Operand) : Bool :=
  match hi, mx with
  | none, some _ => false
  | _, _ => true
def sliceAtV (P : Program) (tm : Nat → Option V) (h : H) (t : Nat) (x : V) (lo hi mx : Option Operand) : Option V :=
  match hiOk hi mx with
  | false => none
  | true => match P.underlying t with
    | some (.array n elem) => match x, tyI P elem with
      | .ptr b off, some (_, esz) => match optNat tm mx n with
        | none => none
        | some m => match optNat tm hi n with
          | none => none
          | some hh => match optNat tm lo 0 with
            | none => none
            | some l => match Nat.ble l hh with
              | false => none
              | true => match Nat.ble hh m with
                | false => none
                | true => match Nat.ble m n with
                  | false => none
                  | true => some (.sl b (match Nat.beq m l with | true => off | false => Nat.add off (Nat.mul l esz)) (Nat.sub hh l) (.exact (Nat.sub m l)))
      | _, _ => none
    | _ => sliceV P tm h t x lo hi mx
def bytesOf : List V → Option (List Nat)
  | [] => some []
  | .int .u8 (.ofNat m) :: l => match Nat.ble (Nat.succ m) 256 with
    | true => match bytesOf l with
      | some l => some (m :: l)
      | none => none
    | false => none
  | _ :: _ => none
def convV (P : Program) (h : H) (src dst : Nat) (x : V) : Option V :=
  match P.underlying src, P.underlying dst, x with
  | some _, some (.int k), .int _ n => some (.int k (wrapF k n))
  | some _, some .string, .str s => some (.str s)
  | some (.slice e), some .string, x => match P.underlying e with
    | some (.int .u8) => match x with
      | .nils => some (.str [])
      | .sl b off len _ => match loadN h b off len with
        | some l => match bytesOf l with
          | some l => some (.str l)
          | none => none
        | none => none
      | _ => none
    | _ => none
  | _, _, _ => none
def lenV (P : Program) (h : H) (t : Nat) (x : V) : Option V :=
  match P.underlying t, x with
  | some .string, .str s => some (.int .i64 (.ofNat s.length))
  | some (.array n _), _ => some (.int .i64 (.ofNat n))
  | some (.slice _), .nils => some (.int .i64 (.ofNat 0))
  | some (.slice _), .emp => some (.int .i64 (.ofNat 0))
  | some (.slice _), .sl _ _ n _ => some (.int .i64 (.ofNat n))
  | some (.map _ _), .nilm => some (.int .i64 (.ofNat 0))
  | some (.map _ _), .map b => match h.t.get b with
    | some (.map es _) => some (.int .i64 (.ofNat es.length))
    | _ => none
  | _, _ => none
def mapEs (h : H) (m : V) : Option (List (V × V × Nat)) :=
  match m with
  | .nilm => some []
  | .map b => match h.t.get b with
    | some (.map es _) => some es
    | _ => none
  | _ => none
def lookV (P : Program) (h : H) (t : Nat) (m key : V) (ok : Bool) : Option V :=
  match P.underlying t with
  | some (.map kt et) => match plainKey P kt key with
    | false => none
    | true => match mapEs h m with
      | none => none
      | some es => match kfind key es 0 with
        | none => none
        | some (some (_, v)) => some (match ok with | true => .tup [v, .bool true] | false => v)
        | some none => match zeroV P et with
          | none => none
          | some v => some (match ok with | true => .tup [v, .bool false] | false => v)
  | _ => none
def assertV (P : Program) (x : V) (at_ : Nat) (ok : Bool) : Option V :=
  match P.underlying at_ with
  | none => none
  | some (.interface want) => match x with
    | .iface t v => match P.info? t with
      | some i => match Instr.missingMethod want i.methods with
        | none => some (match ok with | true => .tup [.iface t v, .bool true] | false => .iface t v)
        | some _ => none
      | none => none
    | .nilIface => match ok with
      | true => match zeroV P at_ with
        | some z => some (.tup [z, .bool false])
        | none => none
      | false => none
    | _ => none
  | some _ => match x with
    | .iface t v => match Nat.beq t at_ with
      | true => some (match ok with | true => .tup [v, .bool true] | false => v)
      | false => match ok with
        | true => match zeroV P at_ with
          | some z => some (.tup [z, .bool false])
          | none => none
        | false => none
    | .nilIface => match ok with
      | true => match zeroV P at_ with
        | some z => some (.tup [z, .bool false])
        | none => none
      | false => none
    | _ => none
def minV (mx : Bool) (x y : V) : Option V :=
  match x, y with
  | .int k a, .int _ b => match mx with
    | false => some (.int k (match ltF b a with | true => b | false => a))
    | true => some (.int k (match ltF a b with | true => b | false => a))
  | _, _ => none
def minsV (mx : Bool) (x : V) : List V → Option V
  | [] => some x
  | y :: l => match minV mx x y with
    | some z => minsV mx z l
    | none => none

def lastN : List Nat → Option Nat
  | [] => none
  | [a] => some a
  | _ :: l => lastN l
def findStamp (st : Nat) : List (V × V × Nat) → Option (V × V)
  | [] => none
  | e :: es => match Nat.beq e.2.2 st with
    | true => some (e.1, e.2.1)
    | false => findStamp st es
def uniform (v : V) (since : Nat) : List (V × V × Nat) → Bool
  | [] => true
  | e :: es => beqV e.2.1 v && (Nat.ble (Nat.succ e.2.2) since && uniform v since es)
def stampsOf : List (V × V × Nat) → List Nat
  | [] => []
  | e :: es => e.2.2 :: stampsOf es
def nodupN : List Nat → Bool
  | [] => true
  | a :: l => !(l.any (Nat.beq a)) && nodupN l
def entryV (h : H) (it : V) : Option V :=
  match it with
  | .ptr r 0 => match h.t.get r with
    | some (.mapIter (some m) _ seen stepped) => match h.t.get m with
      | some (.map es clock) => match Nat.beq clock stepped with
        | true => match lastN seen with
          | some st => match findStamp st es with
            | some (k, v) => some (.tup [k, v])
            | none => none
          | none => none
        | false => none
      | _ => none
    | some (.mapIterU m since st (_ + 1) stepped) => match h.t.get m with
      | some (.map es clock) => match Nat.beq clock stepped && leqL (stampsOf es) st with
        | true => match es with
          | [] => none
          | e :: _ => match uniform e.2.1 since es with
            | true => some (.tup [.unk, e.2.1])
            | false => none
        | false => none
      | _ => none
    | _ => none
  | _ => none

/-- What an operation that only reads gives. -/
def rd (P : Program) (tm : Nat → Option V) (h : H) (o : Oper) : Option V :=
  match o.op with
  | .move x => ev tm x
  | .pick c a b => match ev tm c with
    | some (.bool true) => ev tm a
    | some (.bool false) => ev tm b
    | _ => none
  | .build t parts => match evParts tm parts.toList with
    | some ps => buildV P t ps
    | none => none
  | .load t a => match ev tm a with
    | some (.ptr b off) => loadT P h t b off
    | _ => none
  | .nilCheck x => match ev tm x with
    | some (.ptr b off) => some (.ptr b off)
    | some (.fn f x y) => some (.fn f x y)
    | some (.iface t v) => some (.iface t v)
    | _ => none
  | .binOp op t x y _ => match ev tm x with
    | some a => match ev tm y with
      | some b => binV P op t x y a b
      | none => none
    | none => none
  | .unOp op _ x => match op, ev tm x with
    | .neg, some (.int k n) => some (.int k (wrapF k (Int.sub (.ofNat 0) n)))
    | .xor, some (.int k n) => some (.int k (adj k (Nat.xor (Nat.sub (modK k) 1) (toU k n))))
    | .not, some (.bool b) => some (.bool (!b))
    | _, _ => none
  | .convert src dst x => match ev tm x with
    | some v => convV P h src dst v
    | none => none
  | .makeInterface t x => match P.underlying t with
    | some (.interface _) => none
    | some _ => match ev tm x with
      | some v => some (.iface t v)
      | none => none
    | none => none
  | .makeFunc (.func f) first cap => match evs tm first.toList with
    | some a => match evs tm cap.toList with
      | some b => some (.fn f a b)
      | none => none
    | none => none
  | .fieldAddr t x f => match ev tm x with
    | some (.ptr b off) => match fieldI P t f with
      | some (o, _ + 1, _) => some (.ptr b (Nat.add off o))
      | _ => none
    | _ => none
  | .field t x f => match ev tm x with
    | some (.agg cs) => match fieldI P t f with
      | some (o, n, g) => part g cs o n
      | none => none
    | _ => none
  | .indexAddr t x i => match ev tm i with
    | some (.int _ (.ofNat i)) => match ev tm x with
      | some (.sl b off len _) => match sliceElem P t with
        | some (_, esz, _) => match Nat.ble (Nat.succ i) len with
          | true => some (.ptr b (Nat.add off (Nat.mul i esz)))
          | false => none
        | none => none
      | some (.ptr b off) => match P.underlying t with
        | some (.array n elem) => match tyI P elem with
          | some (_, esz) => match Nat.ble (Nat.succ i) n with
            | true => some (.ptr b (Nat.add off (Nat.mul i esz)))
            | false => none
          | none => none
        | _ => none
      | _ => none
    | _ => none
  | .index t x i => match ev tm i with
    | some (.int _ (.ofNat i)) => match ev tm x with
      | some (.str s) => match P.underlying t with
        | some .string => match s[i]? with
          | some b => some (.int .u8 (.ofNat b))
          | none => none
        | _ => none
      | some (.agg cs) => match P.underlying t with
        | some (.array n elem) => match tyI P elem with
          | some (g, esz) => match Nat.ble (Nat.succ i) n with
            | true => part g cs (Nat.mul i esz) esz
            | false => none
          | none => none
        | _ => none
      | _ => none
    | _ => none
  | .lookup t x i ok => match ev tm x with
    | some m => match ev tm i with
      | some key => lookV P h t m key ok
      | none => none
    | none => none
  | .typeAssert x _ at_ ok => match ev tm x with
    | some v => assertV P v at_ ok
    | none => none
  | .extract x i => match ev tm x with
    | some (.tup vs) => vs[i]?
    | _ => none
  | .slice t x lo hi mx => match ev tm x with
    | some v => sliceAtV P tm h t v lo hi mx
    | none => none
  | .entry it => match ev tm it with
    | some v => entryV h v
    | none => none
  | .call c => match c.callee with
    | .builtin .len => match c.args.toList, c.argTypes.toList with
      | x :: _, t :: _ => match ev tm x with
        | some v => lenV P h t v
        | none => none
      | _, _ => none
    | .builtin .cap => match c.args.toList, c.argTypes.toList with
      | x :: _, t :: _ => match P.underlying t, ev tm x with
        | some (.slice _), some (.sl _ _ _ (.exact n)) => some (.int .i64 (.ofNat n))
        | some (.slice _), some .nils => some (.int .i64 (.ofNat 0))
        | _, _ => none
      | _, _ => none
    | .builtin .min => match evs tm c.args.toList with
      | some (x :: l) => minsV false x l
      | _ => none
    | .builtin .max => match evs tm c.args.toList with
      | some (x :: l) => minsV true x l
      | _ => none
    | _ => none
  | _ => none
/-- Does an operation only read? -/
def reads (P : Program) (o : Oper) : Bool :=
  match o.op with
  | .move _ => true
  | .pick _ _ _ => true
  | .build _ _ => true
  | .load _ _ => true
  | .nilCheck _ => true
  | .binOp _ _ _ _ _ => true
  | .unOp _ _ _ => true
  | .convert _ dst _ => match P.underlying dst with
    | some (.slice _) => false
    | _ => true
  | .makeInterface _ _ => true
  | .makeFunc _ _ _ => true
  | .fieldAddr _ _ _ => true
  | .field _ _ _ => true
  | .indexAddr _ _ _ => true
  | .index _ _ _ => true
  | .lookup _ _ _ _ => true
  | .typeAssert _ _ _ _ => true
  | .extract _ _ => true
  | .slice _ _ _ _ _ => true
  | .entry _ => true
  | .call c => match c.callee with
    | .builtin .len => true
    | .builtin .cap => true
    | .builtin .min => true
    | .builtin .max => true
    | _ => false
  | _ => false

/-- Does an operation lay a block and nothing else? -/
def lays (o : Oper) : Bool :=
  match o.op with
  | .alloc _ => true
  | .box _ _ => true
  | .buildSlice _ _ _ => true
  | .makeSlice _ _ _ => true
  | .makeMap _ none => true
  | _ => false

-- what acts
def elemsOf (h : H) (esz : Nat) (x : V) : Option (List V × Nat) :=
  match x with
  | .nils => some ([], 0)
  | .emp => some ([], 0)
  | .sl b off n _ => match loadN h b off (Nat.mul n esz) with
    | some l => some (l, n)
    | none => none
  | .str s => match esz with
    | 1 => some (s.map fun b => .int .u8 (.ofNat b), s.length)
    | _ => none
  | _ => none
def small (n : Nat) : Bool := Nat.ble n 100000000
def bytesT (P : Program) (t : Nat) : Option Nat :=
  match P.info? t with
  | some i => some i.bytes
  | none => none
/-- The block of a slice that was appended to falls away: whether its cells were written on or copied is left open. -/
def growK {β : Type} (h : H) (b elem : Nat) (vs : List V) (n : Nat) (k : V → H → β) : β :=
  T.setK .dead h.t b fun ht => newK ⟨ht, h.nx⟩ elem true vs fun c h => natK n fun n => k (.sl c 0 n (.upto 0)) h
def freshK {β : Type} (h : H) (elem : Nat) (vs : List V) (n : Nat) (k : V → H → β) : β :=
  newK h elem true vs fun c h => natK n fun n => k (.sl c 0 n (.upto 0)) h
def zeroOk (P : Program) (t esz : Nat) : Bool :=
  match zeroV P t with
  | some z => Nat.beq z.cells.length esz
  | none => false
def appendK {β : Type} (P : Program) (h : H) (t : Nat) (s x : V) (none' : β) (k : V → H → β) : β :=
  match sliceElem P t with
  | none => none'
  | some (elem, esz, _) => match bytesT P elem with
    | none => none'
    | some by_ => match zeroOk P elem esz && Nat.ble 1 esz with
      | false => none'
      | true => match elemsOf h esz x with
        | none => none'
        | some (new, n) => match s with
            | .nils => match n with
              | 0 => k .nils h
              | Nat.succ _ => match small (Nat.mul n (Nat.succ by_)) with
                | false => none'
                | true => nfsK new fun new => freshK h elem new n k
            | .sl b off len cap => match small (Nat.mul (Nat.add len n) (Nat.succ by_)) with
              | false => none'
              | true => match cap with
                | .exact c => match Nat.ble (Nat.add len n) c with
                  | true => nfsK new fun new => storeK h b (Nat.add off (Nat.mul len esz)) new none' fun h => natK (Nat.add len n) fun m => k (.sl b off m (.exact c)) h
                  | false => match loadN h b off (Nat.mul len esz) with
                    | none => none'
                    | some old => nfsK new fun new => freshK h elem (old ++ new) (Nat.add len n) k
                | .upto j => match known P h b off esz j with
                  | none => none'
                  | some kn => match Nat.ble (Nat.add len n) kn with
                    | true => nfsK new fun new => storeK h b (Nat.add off (Nat.mul len esz)) new none' fun h => natK (Nat.add len n) fun m => k (.sl b off m (.upto j)) h
                    | false => match off, j with
                      | 0, 0 => match loadN h b 0 (Nat.mul len esz) with
                        | none => none'
                        | some old => match h.t.get b with
                          | some (.cells e true true _ _ _) => match Nat.beq e elem && ones new with
                            | true => nfsK new fun new => growK h b elem (old ++ new) (Nat.add len n) k
                            | false => none'
                          | _ => none'
                      | _, _ => none'
            | _ => none'
def copyK {β : Type} (P : Program) (h : H) (t : Nat) (d s : V) (none' : β) (k : V → H → β) : β :=
  match sliceElem P t with
  | none => none'
  | some (_, esz, _) => match d with
    | .nils => match elemsOf h esz s with
      | some _ => k (.int .i64 (.ofNat 0)) h
      | none => none'
    | .emp => match elemsOf h esz s with
      | some _ => k (.int .i64 (.ofNat 0)) h
      | none => none'
    | .sl b off len _ => match elemsOf h esz s with
      | none => none'
      | some (l, n) => natK (Nat.min n len) fun m => nfsK (l.take (Nat.mul m esz)) fun l => storeK h b off l none' fun h => k (.int .i64 (.ofNat m)) h
    | _ => none'
def fnI (P : Program) (f : Nat) : Option (Nat × Code) :=
  match P.funcs[f]? with
  | some fn => match fn.body with
    | some c => match fn.name == "runtime.NumGoroutine" with
      | true => none
      | false => some (fn.ntmps, c)
    | none => none
  | none => none
/-- The function behind a method called through an interface value. -/
def methI (P : Program) (t : Nat) (name : String) : Option (Nat × Option Nat) :=
  match P.info? t with
  | none => none
  | some i => match i.methods.find? (·.name == name) with
    | none => none
    | some m => match m.path.isEmpty, m.func with
      | true, some (f, pr) => match P.underlying t, pr with
        | some (.pointer _), true => some (f, none)
        | some (.pointer e), false => some (f, some e)
        | some _, false => some (f, none)
        | _, _ => none
      | _, _ => none

/-- An operation that acts: a value and the memory behind it, a call, or a call put off. -/
def actK {β : Type} (P : Program) (tm : Nat → Option V) (h : H) (o : Oper) (none' : β) (kv : V → H → β) (kc : Nat → List V → β) (kr : Nat → List V → β) (kd : AD → β) (kn : β) : β :=
  match o.op with
  | .assign x => match ev tm x with
    | some v => kv v h
    | none => none'
  | .store t a x => match ev tm a with
    | some (.ptr b off) => match ev tm x with
      | some v => match v.cellsO with
        | none => none'
        | some vc => match tyI P t with
          | some (_, n) => match Nat.beq vc.length n with
            | true => nfsK vc fun vs => storeK h b off vs none' fun h => kv (.tup []) h
            | false => none'
          | none => none'
      | none => none'
    | _ => none'
  | .alloc t => match zeroV P t with
    | some z => nfsK z.cells fun vs => newK h t false vs fun c h => kv (.ptr c 0) h
    | none => none'
  | .box t x => match ev tm x with
    | some v => match v.cellsO with
      | none => none'
      | some vc => nfsK vc fun vs => newK h t false vs fun c h => kv (.ptr c 0) h
    | none => none'
  | .buildSlice t len parts => match sliceElem P t with
    | some (elem, esz, _) => match evParts tm parts.toList with
      | some ps => match esz with
        | 0 => none'
        | Nat.succ _ => match zeroV P elem with
          | some z => match Nat.beq z.cells.length esz with
            | false => none'
            | true => match Nat.ble (Nat.mul len esz) 16777216 with
              | true => match fillL (fun i => some (Nat.mul i esz, esz)) (repl z.cells len []) ps with
                | some l => nfsK l fun vs => newK h elem false vs fun c h => natK len fun len => kv (.sl c 0 len (.exact len)) h
                | none => none'
              | false => none'
          | none => none'
      | none => none'
    | none => none'
  | .makeSlice t l c => match ev tm l with
    | some (.int _ (.ofNat l)) => match ev tm c with
      | some (.int _ (.ofNat c)) => match sliceElem P t with
        | some (elem, esz, _) => match esz with
          | 0 => none'
          | Nat.succ _ => match zeroV P elem with
            | some z => match bytesT P elem with
              | some by_ => match Nat.beq z.cells.length esz with
                | false => none'
                | true => match Nat.ble l c with
                  | false => none'
                  | true => match small (Nat.mul (Nat.succ c) (Nat.succ by_)) with
                    | false => none'
                    | true => nfsK z.cells fun zs => natK l fun l => natK c fun c => natK (Nat.mul c esz) fun m => newObjK h (.cells elem true false m zs .e) fun b h => kv (.sl b 0 l (.exact c)) h
              | none => none'
            | none => none'
        | none => none'
      | _ => none'
    | _ => none'
  | .makeMap t r => match r with
    | none => newObjK h (.map [] 0) fun b h => kv (.map b) h
    | some x => match ev tm x, P.underlying t with
      | some (.int _ _), some (.map _ _) => newObjK h (.map [] 0) fun b h => kv (.map b) h
      | _, _ => none'
  | .mapUpdate t m key x | .insert t m key x => match P.underlying t with
    | some (.map kt _) => match ev tm m with
      | some (.map b) => match ev tm key with
        | some key => match plainKey P kt key with
          | false => none'
          | true => match ev tm x with
            | some v => match h.t.get b with
              | some (.map es clock) => match kfind key es 0 with
                | some (some (i, _)) => nfK v fun v => T.setK (.map (mset es i key v) clock) h.t b fun ht => kv (.tup []) ⟨ht, h.nx⟩
                | some none => nfK v fun v => natK clock fun clock => T.setK (.map (es ++ [(key, v, clock)]) (Nat.succ clock)) h.t b fun ht => kv (.tup []) ⟨ht, h.nx⟩
                | none => none'
              | _ => none'
            | none => none'
        | none => none'
      | _ => none'
    | _ => none'
  | .range t x => match P.underlying t with
    | some (.map _ _) => match ev tm x with
      | some .nilm => newObjK h (.mapIter none 0 [] 0) fun b h => kv (.ptr b 0) h
      | some (.map m) => match h.t.get m with
        | some (.map _ clock) => newObjK h (.mapIter (some m) clock [] clock) fun b h => kv (.ptr b 0) h
        | _ => none'
      | _ => none'
    | some .string => match ev tm x with
      | some (.str s) => newObjK h (.strIter s 0) fun b h => kv (.ptr b 0) h
      | _ => none'
    | _ => none'
  | .next it isStr => match ev tm it with
    | some (.ptr r 0) => match h.t.get r with
      | some (.strIter s pos) => match isStr with
        | false => none'
        | true => match s.drop pos with
          | [] => kv (.tup [.bool false]) h
          | c :: _ => match Nat.ble (Nat.succ c) 128 with
            | true => natK (Nat.succ pos) fun p1 => T.setK (.strIter s p1) h.t r fun ht => nfK (.tup [.bool true, .int .i64 (.ofNat pos), .int .i32 (.ofNat c)]) fun v => kv v ⟨ht, h.nx⟩
            | false => none'
      | some (.mapIter none _ _ _) => match isStr with
        | false => kv (.tup [.bool false]) h
        | true => none'
      | some (.mapIter (some m) since seen last) => match isStr with
        | true => none'
        | false => match h.t.get m with
          | some (.map es clock) =>
            match !seen.isEmpty && !es.isEmpty && es.all (fun e => Nat.ble last e.2.2) with
            | true => none'
            | false => match es.filter (fun e => !seen.contains e.2.2) with
              | [] => kv (.tup [.bool false]) h
              | [e] => match Nat.ble (Nat.succ e.2.2) since with
                | true => nfK e.1 fun key => nfK e.2.1 fun val => T.setK (.mapIter (some m) since (seen ++ [e.2.2]) clock) h.t r fun ht => kv (.tup [.bool true, key, val]) ⟨ht, h.nx⟩
                | false => none'
              | e :: _ => match seen with
                | [] => match uniform e.2.1 since es && nodupN (stampsOf es) with
                  | true => natsK (stampsOf es) fun st => nfK e.2.1 fun val => T.setK (.mapIterU m since st 1 clock) h.t r fun ht => kv (.tup [.bool true, .unk, val]) ⟨ht, h.nx⟩
                  | false => none'
                | _ => none'
          | _ => none'
      | some (.mapIterU m since st cnt last) => match isStr with
        | true => none'
        | false => match h.t.get m with
          | some (.map es clock) => match leqL (stampsOf es) st && !(!es.isEmpty && es.all (fun e => Nat.ble last e.2.2)) with
            | false => none'
            | true => match Nat.beq cnt st.length with
              | true => kv (.tup [.bool false]) h
              | false => match es with
                | [] => none'
                | e :: _ => match uniform e.2.1 since es with
                  | true => natK (Nat.succ cnt) fun cnt => nfK e.2.1 fun val => T.setK (.mapIterU m since st cnt clock) h.t r fun ht => kv (.tup [.bool true, .unk, val]) ⟨ht, h.nx⟩
                  | false => none'
          | _ => none'
      | _ => none'
    | _ => none'
  | .convert src dst x => match ev tm x with
    | some (.str s) => match P.underlying src, sliceElem P dst with
      | some .string, some (elem, esz, false) => match P.underlying elem, esz with
        | some (.int .u8), 1 => match small s.length with
          | true => natsK s fun s => freshK h elem (s.map fun b => .int .u8 (.ofNat b)) s.length kv
          | false => none'
        | _, _ => none'
      | _, _ => none'
    | _ => none'
  | .defer c => match c.callee with
    | .value f => match ev tm f with
      | some (.fn f first cap) => match evs tm c.args.toList with
        | some args => kd (.call f (first ++ args ++ cap))
        | none => none'
      | _ => none'
    | _ => none'
  | .call c => match c.callee with
    | .value f => match ev tm f with
      | some (.fn f first cap) => match evs tm c.args.toList with
        | some args => kc f (first ++ args ++ cap)
        | none => none'
      | some (.yld l) => match evs tm c.args.toList with
        | some args => kr l args
        | none => none'
      | _ => none'
    | .invoke r name => match ev tm r with
      | some (.iface t v) => match methI P t name with
        | some (f, none) => match evs tm c.args.toList with
          | some args => kc f (v :: args)
          | none => none'
        | some (f, some e) => match v with
          | .ptr b off => match loadT P h e b off with
            | some x => match evs tm c.args.toList with
              | some args => kc f (x :: args)
              | none => none'
            | none => none'
          | _ => none'
        | none => none'
      | _ => none'
    | .builtin .append => match evs tm c.args.toList, c.argTypes.toList with
      | some [s, x], [t, u] => match P.underlying u with
        | some (.int _) => none'
        | some _ => appendK P h t s x none' kv
        | none => none'
      | _, _ => none'
    | .builtin .copy => match evs tm c.args.toList, c.argTypes.toList with
      | some [d, s], t :: _ => copyK P h t d s none' kv
      | _, _ => none'
    | .builtin .delete => match evs tm c.args.toList, c.argTypes.toList with
      | some [m, key], t :: _ => match P.underlying t with
        | some (.map kt _) => match plainKey P kt key with
          | false => none'
          | true => match m with
            | .nilm => kv (.tup []) h
            | .map b => match h.t.get b with
              | some (.map es clock) => match kfind key es 0 with
                | some (some (i, _)) => T.setK (.map (es.eraseIdx i) clock) h.t b fun ht => kv (.tup []) ⟨ht, h.nx⟩
                | some none => kv (.tup []) h
                | none => none'
              | _ => none'
            | _ => none'
        | _ => none'
      | _, _ => none'
    | .builtin .recover => kn
    | _ => none'
  | _ => none'

-- frames
def putK {β : Type} (tm : T V) (n : Nat) (dst : Option Tmp) (v : V) (none' : β) (k : T V → β) : β :=
  match dst with
  | none => k tm
  | some d => match Nat.ble (Nat.succ d) n with
    | true => T.setK v tm d k
    | false => none'
def wantedA (ops : Array Oper) (tm : Nat → Option V) (o : Oper) : Option Bool :=
  match o.guard with
  | none => some true
  | some (j, want) => match ops[j]? with
    | none => some false
    | some oj => match oj.dst with
      | none => some false
      | some d => match tm d with
        | some (.bool b) => some (match b, want with | true, true => true | false, false => true | _, _ => false)
        | some .unk => none
        | some _ => some false
        | none => none
def exitA (id : Nat) : List AI → Option (List AI)
  | .inBlock id' :: k => match Nat.beq id' id with | true => some k | false => exitA id k
  | _ :: k => exitA id k
  | [] => none
def gotoA (l : Nat) : List AI → Option (List AI)
  | .inScope body :: k => match findLabel body l with
    | some rest => some (.code rest :: .inScope body :: k)
    | none => gotoA l k
  | _ :: k => gotoA l k
  | [] => none
/-- Does an operation give now what it gave? -/
def same1 (P : Program) (ops : Array Oper) (tm : T V) (h : H) (o : Oper) : Bool :=
  match wantedA ops tm.get o with
  | none => false
  | some false => match o.dst with
    | none => true
    | some d => match tm.get d with
      | some (.tup []) => true
      | _ => false
  | some true => match rd P tm.get h o with
    | none => false
    | some v => match o.dst with
      | none => true
      | some d => match tm.get d with
        | none => false
        | some u => beqV v u
def recheck (P : Program) (ops : Array Oper) (tm : T V) (h : H) : List Oper → Bool
  | [] => true
  | o :: l => match same1 P ops tm h o with
    | true => recheck P ops tm h l
    | false => false
def enterF (f n : Nat) (c : Code) (tm : T V) (dk : Bool) : AF := ⟨f, n, tm, [.code c], [], false, dk, none⟩
/-- A value comes back to a frame. -/
def finishK {β : Type} (P : Program) (a : AF) (h : H) (v : V) (none' : β) (k : AF → β) : β :=
  match a with
  | ⟨fn, n, tm, todo, dfs, ret, dk, rnd⟩ => match todo with
    | .reg ops (o :: rest) :: td => putK tm n o.dst v none' fun tm => k ⟨fn, n, tm, .reg ops rest :: td, dfs, ret, dk, rnd⟩
    | .dreg ops (.act o rc :: plan) :: td => putK tm n o.dst v none' fun tm => match recheck P ops tm h rc with
      | true => k ⟨fn, n, tm, .dreg ops plan :: td, dfs, ret, dk, rnd⟩
      | false => none'
    | .inRF l :: td => k ⟨fn, n, tm, .endRF l :: td, dfs, ret, dk, rnd⟩
    | _ => none'
def callK (P : Program) (f : Nat) (args : List V) (dk : Bool) (rest : List AF) (h : H) : Option S :=
  match fnI P f with
  | none => none
  | some (n, c) => match Nat.ble args.length n with
    | false => none
    | true => setsK args .e 0 fun tm => some ⟨enterF f n c tm dk, rest, h⟩
def paramsK {β : Type} (n : Nat) : List Tmp → List V → T V → β → (T V → β) → β
  | [], [], tm, _, k => k tm
  | p :: ps, v :: vs, tm, no, k => putK tm n (some p) v no fun tm => paramsK n ps vs tm no k
  | _, _, _, no, _ => no
def roundK (l : Nat) (args : List V) (rest : List AF) (h : H) : Option S :=
  match h.t.get l with
  | some (.loop _ _ fn n tm params assign body _) => paramsK n params args tm none fun tm => some ⟨⟨fn, n, tm, [.code assign, .beginRound, .code body], [], false, false, some l⟩, rest, h⟩
  | _ => none
def resV (P : Program) (tm : T V) (h : H) : ResultVar → Option V
  | .tmp t => tm.get t
  | .cell a t => match tm.get a with
    | some (.ptr b off) => loadT P h t b off
    | _ => none
def resVs (P : Program) (tm : T V) (h : H) : List ResultVar → Option (List V)
  | [] => some []
  | r :: l => match resV P tm h r with
    | some v => match resVs P tm h l with
      | some l => some (v :: l)
      | none => none
    | none => none
def tupOf : List V → V
  | [v] => v
  | l => .tup l
def results (P : Program) (f : Nat) (tm : T V) (h : H) : Option V :=
  match P.funcs[f]? with
  | some fn => match resVs P tm h fn.results.toList with
    | some l => some (tupOf l)
    | none => none
  | none => none

-- plans
/-- Of each operation the ones ahead of it (as bits); none, if an operation waits for a later one. -/
def edgeBits (tr : List Nat) (n : Nat) : List Edge → Option Nat
  | [] => some 0
  | e :: l => match Region.binds .any e with
    | false => edgeBits tr n l
    | true => match Nat.ble (Nat.succ e.on) n with
      | false => none
      | true => match tr[e.on]? with
        | none => none
        | some t => match edgeBits tr n l with
          | none => none
          | some s => some (Nat.lor s (Nat.lor (Nat.shiftLeft 1 e.on) t))
def trOf : List Oper → List Nat → Nat → Option (List Nat)
  | [], tr, _ => some tr
  | o :: l, tr, n => match edgeBits tr n o.after.toList with
    | none => none
    | some s => trOf l (tr ++ [s]) (Nat.succ n)
def memN (a : Nat) (l : List Nat) : Bool := l.any (Nat.beq a)
def trAt (tr : List Nat) (i j : Nat) : Bool :=
  match tr[i]? with
  | some t => Nat.testBit t j
  | none => false
def looksD (ops : Array Oper) (o : Oper) (j : Nat) : Bool :=
  match ops[j]? with
  | none => true
  | some oj => match oj.dst with
    | none => false
    | some d => memN d (o.looksAt ops)
def PI.i : PI → Nat
  | .rd i => i
  | .al i => i
  | .act i _ => i
/-- The operation comes later, and its result is neither looked at nor written over by one that lays a block. -/
def apartD (ops : Array Oper) (o : Oper) (j : Nat) : Bool :=
  match ops[j]? with
  | none => true
  | some oj => match oj.dst with
    | none => true
    | some d => match o.dst with
      | none => true
      | some e => !Nat.beq d e
def isRd (P : Program) (ops : Array Oper) (j : Nat) : Bool :=
  match ops[j]? with
  | none => false
  | some oj => reads P oj
/-- Is this a plan that every order goes by? -/
def chk (P : Program) (ops : Array Oper) (tr : List Nat) : List PI → (ex pot : List Nat) → Bool
  | [], ex, _ => (List.range ops.size).all fun i => memN i ex
  | .rd i :: l, ex, pot => match ops[i]? with
    | none => false
    | some o => !memN i ex && (reads P o && ((pot.all fun j => !looksD ops o j || trAt tr i j) && (!looksD ops o i && ((pot.all fun j => match ops[j]? with | some oj => !looksD ops oj i | none => false) && chk P ops tr l (i :: ex) (pot ++ [i])))))
  | .al i :: l, ex, pot => match ops[i]? with
    | none => false
    | some o => !memN i ex && (lays o && ((pot.all fun j => !looksD ops o j || trAt tr i j) && (!looksD ops o i && ((pot.all fun j => match ops[j]? with | some oj => !looksD ops oj i | none => false) && ((l.all fun p => !looksD ops o p.i && apartD ops o p.i) && chk P ops tr l (i :: ex) (pot ++ [i]))))))
  | .act i rc :: l, ex, pot => match ops[i]? with
    | none => false
    | some o => !memN i ex && ((l.all fun p => trAt tr p.i i) && ((pot.all fun j => memN j rc || trAt tr i j) && ((rc.all fun j => memN j pot && !looksD ops o j) && chk P ops tr l (i :: ex) rc)))
def opersOf (ops : Array Oper) : List Nat → Option (List Oper)
  | [] => some []
  | i :: l => match ops[i]? with
    | none => none
    | some o => match opersOf ops l with
      | none => none
      | some m => some (o :: m)
def mkPS (P : Program) (ops : Array Oper) : List PI → (pot : List Nat) → Option (List PS)
  | [], _ => some []
  | .rd i :: l, pot => match ops[i]? with
    | none => none
    | some o => match opersOf ops ((pot ++ [i]).filter (isRd P ops)) with
      | none => none
      | some rc => match mkPS P ops l (pot ++ [i]) with
        | none => none
        | some m => some (.rd o rc :: m)
  | .al i :: l, pot => match ops[i]? with
    | none => none
    | some o => match opersOf ops ((pot ++ [i]).filter (isRd P ops)) with
      | none => none
      | some rc => match mkPS P ops l (pot ++ [i]) with
        | none => none
        | some m => some (.al o rc :: m)
  | .act i rc :: l, _ => match ops[i]? with
    | none => none
    | some o => match opersOf ops (rc.filter (isRd P ops)) with
      | none => none
      | some rs => match mkPS P ops l rc with
        | none => none
        | some m => some (.act o rs :: m)
def soft (P : Program) (o : Oper) : Bool := reads P o || lays o
def stepOf (P : Program) (ops : Array Oper) (i : Nat) : PI :=
  match isRd P ops i with
  | true => .rd i
  | false => .al i
/-- A plan (it is held against the order by chk): first what only reads or lays a block and hangs on no operation that acts and is still to come; then the next that acts; and so on. -/
def planGo (P : Program) (ops : Array Oper) (tr : List Nat) : Nat → (l : List Nat) → (acts : Nat) → (pot : List Nat) → Option (List PI)
  | 0, _, _, _ => none
  | f + 1, l, acts, pot =>
    let isNow (i : Nat) : Bool := match ops[i]?, tr[i]? with
      | some o, some t => soft P o && Nat.beq (Nat.land t acts) 0
      | _, _ => false
    let now := l.filter isNow
    match l.filter fun i => !isNow i with
    | [] => some (now.map (stepOf P ops))
    | e :: more => match tr[e]? with
      | none => none
      | some t =>
        let rc := (pot ++ now).filter fun i => !Nat.testBit t i
        match planGo P ops tr f more (Nat.sub acts (Nat.shiftLeft 1 e)) rc with
        | some r => some (now.map (stepOf P ops) ++ (.act e rc :: r))
        | none => none
def actBits (P : Program) : List Oper → Nat → Nat
  | [], _ => 0
  | o :: l, i => match soft P o with
    | true => actBits P l (Nat.succ i)
    | false => Nat.lor (Nat.shiftLeft 1 i) (actBits P l (Nat.succ i))
def planI (P : Program) (ops : Array Oper) : Option (List PI × List Nat) :=
  match trOf ops.toList [] 0 with
  | none => none
  | some tr => match planGo P ops tr (Nat.succ ops.size) (List.range ops.size) (actBits P ops.toList 0) [] with
    | none => none
    | some l => some (l, tr)
def planOf (P : Program) (ops : Array Oper) : Option (List PS) :=
  match P.follows .mixedOrders with
  | false => none
  | true => match planI P ops with
    | none => none
    | some (l, tr) => match chk P ops tr l [] [] with
      | false => none
      | true => mkPS P ops l []

/-- Nothing is to be recovered here. -/
def recOk (dk : Bool) (rnd : Option Nat) (rest : List AF) : Bool :=
  match rnd with
  | some _ => false
  | none => match dk with
    | false => true
    | true => match rest with
      | [] => false
      | _ :: _ => true
/-- One step. -/
def astep (P : Program) (s : S) : Option S :=
  match s with
  | ⟨⟨fn, n, tm, todo, dfs, ret, dk, rnd⟩, rest, h⟩ =>
    match ret with
    | true => match dfs with
      | .mark r :: dfs => match h.t.get r with
        | some .dfr => T.setK .dfrNone h.t r fun ht => some ⟨⟨fn, n, tm, todo, dfs, true, dk, rnd⟩, rest, ⟨ht, h.nx⟩⟩
        | _ => none
      | .call f args :: dfs => callK P f args true (⟨fn, n, tm, todo, dfs, true, dk, rnd⟩ :: rest) h
      | [] => match rest with
        | [] => none
        | c :: rest => match results P fn tm h with
          | none => none
          | some v => match dk with
            | true => match c.ret with
              | true => some ⟨c, rest, h⟩
              | false => none
            | false => match c.ret with
              | true => none
              | false => finishK P c h v none fun c => some ⟨c, rest, h⟩
    | false => match todo with
      | [] => match rnd with
        | none => some ⟨⟨fn, n, tm, todo, dfs, true, dk, rnd⟩, rest, h⟩
        | some l => leave dk l none rest h
      | .code c :: td => match c with
        | .ret => match rnd with
          | none => some ⟨⟨fn, n, tm, todo, dfs, true, dk, rnd⟩, rest, h⟩
          | some l => leave dk l (some .ret) rest h
        | .skip => some ⟨⟨fn, n, tm, td, dfs, false, dk, rnd⟩, rest, h⟩
        | .label _ => some ⟨⟨fn, n, tm, td, dfs, false, dk, rnd⟩, rest, h⟩
        | .seq a b => some ⟨⟨fn, n, tm, .code a :: .code b :: td, dfs, false, dk, rnd⟩, rest, h⟩
        | .cond x a b => match ev tm.get x with
          | some (.bool true) => some ⟨⟨fn, n, tm, .code a :: td, dfs, false, dk, rnd⟩, rest, h⟩
          | some (.bool false) => some ⟨⟨fn, n, tm, .code b :: td, dfs, false, dk, rnd⟩, rest, h⟩
          | _ => none
        | .block id b => some ⟨⟨fn, n, tm, .code b :: .inBlock id :: td, dfs, false, dk, rnd⟩, rest, h⟩
        | .loop b => some ⟨⟨fn, n, tm, .code b :: .inLoop b :: td, dfs, false, dk, rnd⟩, rest, h⟩
        | .scope b => some ⟨⟨fn, n, tm, .code b :: .inScope b :: td, dfs, false, dk, rnd⟩, rest, h⟩
        | .exit id => match exitA id td with
          | some td => some ⟨⟨fn, n, tm, td, dfs, false, dk, rnd⟩, rest, h⟩
          | none => match rnd with
            | none => none
            | some l => leave dk l (some (.exit id)) rest h
        | .goto l => match gotoA l td with
          | some td => some ⟨⟨fn, n, tm, td, dfs, false, dk, rnd⟩, rest, h⟩
          | none => match rnd with
            | none => none
            | some r => leave dk r (some (.goto l)) rest h
        | .region _ ops draw => match draw with
          | false => some ⟨⟨fn, n, tm, .reg ops ops.toList :: td, dfs, false, dk, rnd⟩, rest, h⟩
          | true => match planOf P ops with
            | some plan => some ⟨⟨fn, n, tm, .dreg ops plan :: td, dfs, false, dk, rnd⟩, rest, h⟩
            | none => none
        | .rangeFunc f params assign body => match rnd with
          | some _ => none
          | none => match ev tm.get f with
            | some (.fn g first cap) => newObjK h .dfr fun r h => newObjK h (.loop .ready none fn n tm params.toList assign body r) fun l h =>
                callK P g (first ++ .yld l :: cap) false (⟨fn, n, tm, .inRF l :: td, .mark r :: dfs, false, dk, none⟩ :: rest) h
            | _ => none
        | .refuse _ => none
      | .inBlock _ :: td => some ⟨⟨fn, n, tm, td, dfs, false, dk, rnd⟩, rest, h⟩
      | .inScope _ :: td => some ⟨⟨fn, n, tm, td, dfs, false, dk, rnd⟩, rest, h⟩
      | .inLoop b :: td => some ⟨⟨fn, n, tm, .code b :: .inLoop b :: td, dfs, false, dk, rnd⟩, rest, h⟩
      | .reg ops l :: td => match l with
        | [] => some ⟨⟨fn, n, tm, td, dfs, false, dk, rnd⟩, rest, h⟩
        | o :: l => match wantedA ops tm.get o with
          | none => none
          | some false => putK tm n o.dst (.tup []) none fun tm => some ⟨⟨fn, n, tm, .reg ops l :: td, dfs, false, dk, rnd⟩, rest, h⟩
          | some true => match reads P o with
            | true => match rd P tm.get h o with
              | none => none
              | some v => nfK v fun v => putK tm n o.dst v none fun tm => some ⟨⟨fn, n, tm, .reg ops l :: td, dfs, false, dk, rnd⟩, rest, h⟩
            | false => actK P tm.get h o none
                (fun v h => putK tm n o.dst v none fun tm => some ⟨⟨fn, n, tm, .reg ops l :: td, dfs, false, dk, rnd⟩, rest, h⟩)
                (fun f args => callK P f args false (⟨fn, n, tm, todo, dfs, false, dk, rnd⟩ :: rest) h)
                (fun r args => roundK r args (⟨fn, n, tm, todo, dfs, false, dk, rnd⟩ :: rest) h)
                (fun d => match rnd with
                  | none => putK tm n o.dst (.tup []) none fun tm => some ⟨⟨fn, n, tm, .reg ops l :: td, d :: dfs, false, dk, rnd⟩, rest, h⟩
                  | some _ => none)
                (match recOk dk rnd rest with
                  | true => putK tm n o.dst .nilIface none fun tm => some ⟨⟨fn, n, tm, .reg ops l :: td, dfs, false, dk, rnd⟩, rest, h⟩
                  | false => none)
      | .dreg ops plan :: td => match plan with
        | [] => some ⟨⟨fn, n, tm, td, dfs, false, dk, rnd⟩, rest, h⟩
        | .rd o rc :: plan => match wantedA ops tm.get o with
          | none => none
          | some false => putK tm n o.dst (.tup []) none fun tm => match recheck P ops tm h rc with
            | true => some ⟨⟨fn, n, tm, .dreg ops plan :: td, dfs, false, dk, rnd⟩, rest, h⟩
            | false => none
          | some true => match rd P tm.get h o with
            | none => none
            | some v => nfK v fun v => putK tm n o.dst v none fun tm => match recheck P ops tm h rc with
              | true => some ⟨⟨fn, n, tm, .dreg ops plan :: td, dfs, false, dk, rnd⟩, rest, h⟩
              | false => none
        | .al o rc :: plan => match wantedA ops tm.get o with
          | none => none
          | some false => putK tm n o.dst (.tup []) none fun tm => match recheck P ops tm h rc with
            | true => some ⟨⟨fn, n, tm, .dreg ops plan :: td, dfs, false, dk, rnd⟩, rest, h⟩
            | false => none
          | some true => actK P tm.get h o none
                (fun v h => putK tm n o.dst v none fun tm => match recheck P ops tm h rc with
                  | true => some ⟨⟨fn, n, tm, .dreg ops plan :: td, dfs, false, dk, rnd⟩, rest, h⟩
                  | false => none)
                (fun _ _ => none)
                (fun _ _ => none)
                (fun _ => none)
                none
        | .act o rc :: plan => match wantedA ops tm.get o with
          | none => none
          | some false => putK tm n o.dst (.tup []) none fun tm => match recheck P ops tm h rc with
            | true => some ⟨⟨fn, n, tm, .dreg ops plan :: td, dfs, false, dk, rnd⟩, rest, h⟩
            | false => none
          | some true => actK P tm.get h o none
                (fun v h => putK tm n o.dst v none fun tm => match recheck P ops tm h rc with
                  | true => some ⟨⟨fn, n, tm, .dreg ops plan :: td, dfs, false, dk, rnd⟩, rest, h⟩
                  | false => none)
                (fun f args => callK P f args false (⟨fn, n, tm, todo, dfs, false, dk, rnd⟩ :: rest) h)
                (fun r args => roundK r args (⟨fn, n, tm, todo, dfs, false, dk, rnd⟩ :: rest) h)
                (fun _ => none)
                none
      | .inRF _ :: _ => none
      | .endRF l :: td => match h.t.get l with
        | some (.loop st pending fn' n' tm' ps a b d) => match st with
          | .busy => none
          | _ => T.setK (.loop .exhausted pending fn' n' tm' ps a b d) h.t l fun ht => match pending with
            | none => some ⟨⟨fn, n, tm, td, dfs, false, dk, rnd⟩, rest, ⟨ht, h.nx⟩⟩
            | some c => some ⟨⟨fn, n, tm, .code c :: td, dfs, false, dk, rnd⟩, rest, ⟨ht, h.nx⟩⟩
        | _ => none
      | .beginRound :: td => match rnd with
        | none => none
        | some l => match h.t.get l with
          | some (.loop .ready pending fn' n' tm' ps a b d) => T.setK (.loop .busy pending fn' n' tm' ps a b d) h.t l fun ht => some ⟨⟨fn, n, tm, td, dfs, false, dk, rnd⟩, rest, ⟨ht, h.nx⟩⟩
          | _ => none
where
  leave (dk : Bool) (l : Nat) (jump : Option Code) (rest : List AF) (h : H) : Option S :=
    match dk with
    | true => none
    | false => match h.t.get l with
      | some (.loop _ _ fn' n' tm' ps a b d) =>
        T.setK (.loop (match jump with | none => .ready | some _ => .done) jump fn' n' tm' ps a b d) h.t l fun ht => match rest with
          | [] => none
          | c :: rest => match c.ret with
            | true => none
            | false => finishK P c ⟨ht, h.nx⟩ (.bool (match jump with | none => true | some _ => false)) none fun c => some ⟨c, rest, ⟨ht, h.nx⟩⟩
      | _ => none
def arun (P : Program) (k : Nat) : S → Option S :=
  Nat.rec (motive := fun _ => S → Option S) (fun s => some s) (fun _ ih s => match astep P s with | some s => ih s | none => none) k
end
end Go.Ev
