/- An evaluator over abstract memory for the translated code: each block has a name of its own, a grown array's capacity is not known, and a region that leaves its order open is done in one order, with what each other order could see looked at. Written in continuation style, so that Lean's kernel can run it. -/
import Derived.Calls
namespace Go.Proofs.YtnjobinioalipaaGreatDoor.Ev
open Go

/-- An abstract value. 'sliceU': its capacity is not known (z: cells of an element). -/
inductive AV where
  | bool (b : Bool)
  | int (k : IntKind) (n : Int)
  | str (s : List Nat)
  | ptr (b off : Nat)
  | nilptr
  | slice (b off len cap : Nat)
  | sliceU (b off len z : Nat)
  | nilslice
  | map (b : Nat)
  | nilmap
  | func (f : FuncId) (first captured : List AV)
  | nilFunc
  | iface (t : TypeId) (v : AV)
  | nilIface
  | agg (cs : List AV)
  | tuple (vs : List AV)

/-- A tree of numbered things. -/
inductive T (α : Type) where
  | leaf
  | node (v : Option α) (l r : T α)

def T.get {α : Type} : T α → Nat → Option α
  | .leaf, _ => none
  | .node v l r, i =>
    match i with
    | 0 => v
    | j + 1 =>
      match Nat.mod j 2 with
      | 0 => l.get (Nat.div j 2)
      | _ + 1 => r.get (Nat.div j 2)

def T.setK {α : Type} : Nat → T α → Nat → Option α → (T α → Bool) → Bool
  | 0, _, _, _, _ => false
  | f + 1, .leaf, i, a, k =>
    match i with
    | 0 => k (.node a .leaf .leaf)
    | j + 1 =>
      match Nat.mod j 2 with
      | 0 => T.setK f .leaf (Nat.div j 2) a fun t => k (.node none t .leaf)
      | _ + 1 => T.setK f .leaf (Nat.div j 2) a fun t => k (.node none .leaf t)
  | f + 1, .node v l r, i, a, k =>
    match i with
    | 0 => k (.node a l r)
    | j + 1 =>
      match Nat.mod j 2 with
      | 0 => T.setK f l (Nat.div j 2) a fun t => k (.node v t r)
      | _ + 1 => T.setK f r (Nat.div j 2) a fun t => k (.node v l t)

/-- An abstract object: cells (of elements of a type; lo to hi: may be frozen; mk: a mark behind the end may be; sh: it may begin in the middle of its block), or a map. -/
inductive AObj where
  | cells (cs : List AV) (elem : TypeId) (lo hi : Nat) (mk sh : Bool)
  | map (es : List (AV × AV))

/-- Abstract memory: the objects, and the next name. -/
structure H where
  t : T AObj
  next : Nat

abbrev Regs := T AV

def deepest : Nat := 64

/- Forcing. -/

def natK (n : Nat) (k : Nat → Bool) : Bool :=
  match n with
  | 0 => k 0
  | m + 1 => k (Nat.succ m)

def intK (n : Int) (k : Int → Bool) : Bool :=
  match n with
  | .ofNat m => natK m fun m => k (.ofNat m)
  | .negSucc m => natK m fun m => k (.negSucc m)

def boolK (b : Bool) (k : Bool → Bool) : Bool :=
  match b with
  | true => k true
  | false => k false

def catK {α : Type} : List α → List α → (List α → Bool) → Bool
  | [], ys, k => k ys
  | x :: xs, ys, k => catK xs ys fun r => k (x :: r)

def takeK {α : Type} : Nat → List α → (List α → Bool) → Bool
  | 0, _, k => k []
  | n + 1, x :: xs, k => takeK n xs fun r => k (x :: r)
  | _ + 1, [], _ => false

def dropK {α : Type} : Nat → List α → (List α → Bool) → Bool
  | 0, xs, k => k xs
  | n + 1, _ :: xs, k => dropK n xs k
  | _ + 1, [], _ => false

def lenK {α : Type} : List α → Nat → (Nat → Bool) → Bool
  | [], n, k => natK n k
  | _ :: xs, n, k => natK n fun n => lenK xs (Nat.succ n) k

/-- The list with others put over it from a place on. -/
def putK {α : Type} : List α → Nat → List α → (List α → Bool) → Bool
  | cs, 0, [], k => k cs
  | _ :: cs, 0, v :: vs, k => putK cs 0 vs fun r => k (v :: r)
  | c :: cs, n + 1, vs, k => putK cs n vs fun r => k (c :: r)
  | [], _, _, _ => false

def nthK {α : Type} : List α → Nat → (α → Bool) → Bool
  | x :: _, 0, k => k x
  | _ :: xs, n + 1, k => nthK xs n k
  | [], _, _ => false

/-- So many times z ahead of acc. -/
def repK {α : Type} : Nat → List α → List α → (List α → Bool) → Bool
  | 0, _, acc, k => k acc
  | n + 1, z, acc, k => catK z acc fun acc => repK n z acc k

def bytesK : List UInt8 → (List Nat → Bool) → Bool
  | [], k => k []
  | b :: bs, k => natK b.toNat fun n => bytesK bs fun r => k (n :: r)

/-- A constant of one cell. -/
def const1K (v : Value) (k : AV → Bool) : Bool :=
  match v with
  | .bool b => boolK b fun b => k (.bool b)
  | .int kk n => intK n fun n => k (.int kk n)
  | .string s => bytesK s.data.toList fun l => k (.str l)
  | .pointer none => k .nilptr
  | .slice none 0 0 => k .nilslice
  | .map none => k .nilmap
  | .nilFunc => k .nilFunc
  | .nilIface => k .nilIface
  | _ => false

def constsK : List Value → (List AV → Bool) → Bool
  | [], k => k []
  | v :: vs, k => const1K v fun a => constsK vs fun r => k (a :: r)

def constK (v : Value) (k : AV → Bool) : Bool :=
  match v with
  | .agg cs => constsK cs.toList fun l => k (.agg l)
  | .tuple cs => constsK cs.toList fun l => k (.tuple l)
  | v => const1K v k

/-- What stands for a function without a body. -/
inductive Ext where
  | noEscape

structure Env where
  fn : T Func
  ty : T TypeInfo
  ext : T Ext

def Env.und (E : Env) (t : TypeId) (k : TypeDesc → Bool) : Bool :=
  match E.ty.get t with
  | some i =>
    match i.desc with
    | .named _ u => match E.ty.get u with
      | some j => k j.desc
      | none => false
    | d => k d
  | none => false

def Env.sizeK (E : Env) (t : TypeId) (k : Nat → Bool) : Bool :=
  match E.ty.get t with
  | some i => natK i.size k
  | none => false

/-- The zero value's cells. -/
def Env.zeroK (E : Env) (t : TypeId) (k : AV → Bool) : Bool :=
  match E.ty.get t with
  | some i => match i.zero with
    | some v => constK v k
    | none => false
  | none => false

def AV.cells : AV → List AV
  | .agg cs => cs
  | v => [v]

/-- The zero value's cells, as many as the type has. -/
def Env.zcellsK (E : Env) (t : TypeId) (k : List AV → Bool) : Bool :=
  match E.ty.get t with
  | some i => match i.zero with
    | some v => constK v fun v => lenK v.cells 0 fun m =>
      match Nat.beq m i.size with
      | true => k v.cells
      | false => false
    | none => false
  | none => false

def Env.aggK (E : Env) (t : TypeId) (k : Bool → Bool) : Bool :=
  E.und t fun d => match d with
    | .struct _ => k true
    | .array _ _ => k true
    | _ => k false

def AV.one : AV → Bool
  | .agg _ => false
  | .tuple _ => false
  | _ => true

def allOne : List AV → Bool
  | [] => true
  | v :: vs => match v.one with
    | true => allOne vs
    | false => false

/- Memory. -/

def newK (h : H) (o : AObj) (k : Nat → H → Bool) : Bool :=
  match h with
  | ⟨ht, hn⟩ => natK hn fun b => T.setK deepest ht b (some o) fun t => k b ⟨t, Nat.succ b⟩

/-- Another object at a block, or none any more. -/
def setObjK (h : H) (b : Nat) (o : Option AObj) (k : H → Bool) : Bool :=
  match h with
  | ⟨ht, hn⟩ => T.setK deepest ht b o fun t => k ⟨t, hn⟩

def readK (h : H) (b off n : Nat) (k : List AV → Bool) : Bool :=
  match h.t.get b with
  | some (.cells cs _ _ _ _ _) => dropK off cs fun r => takeK n r k
  | _ => false

def cellK (h : H) (b off : Nat) (k : AV → Bool) : Bool :=
  match h.t.get b with
  | some (.cells cs _ _ _ _ _) => nthK cs off k
  | _ => false

/-- May the cells off .. off + n be written, where lo .. hi may be frozen? -/
def freeOf (lo hi off n : Nat) : Bool :=
  match Nat.ble hi lo with
  | true => true
  | false => match Nat.ble hi off with
    | true => true
    | false => Nat.ble (Nat.add off n) lo

def writeK (h : H) (b off : Nat) (vs : List AV) (k : H → Bool) : Bool :=
  match h.t.get b with
  | some (.cells cs e lo hi mk sh) =>
    match allOne vs with
    | true => lenK vs 0 fun n =>
      match freeOf lo hi off n with
      | true => putK cs off vs fun cs => setObjK h b (some (.cells cs e lo hi mk sh)) k
      | false => false
    | false => false
  | _ => false

def loadK (E : Env) (h : H) (t : TypeId) (v : AV) (k : AV → Bool) : Bool :=
  match v with
  | .ptr b off => E.aggK t fun g => match g with
    | true => E.sizeK t fun n => readK h b off n fun l => k (.agg l)
    | false => cellK h b off k
  | _ => false

def storeK (E : Env) (h : H) (t : TypeId) (p v : AV) (k : H → Bool) : Bool :=
  match p with
  | .ptr b off => E.sizeK t fun n => lenK v.cells 0 fun m =>
    match Nat.beq m n with
    | true => writeK h b off v.cells k
    | false => false
  | _ => false

def partK (E : Env) (t : TypeId) (cs : List AV) (off : Nat) (k : AV → Bool) : Bool :=
  E.aggK t fun g => match g with
    | true => E.sizeK t fun n => dropK off cs fun r => takeK n r fun l => k (.agg l)
    | false => nthK cs off k

/- Whole numbers. -/

def lim : IntKind → Nat
  | .i8 => 128 | .i16 => 32768 | .i32 => 2147483648 | .i64 => 9223372036854775808
  | .u8 => 256 | .u16 => 65536 | .u32 => 4294967296 | .u64 => 18446744073709551616

def modu : IntKind → Nat
  | .i8 | .u8 => 256 | .i16 | .u16 => 65536 | .i32 | .u32 => 4294967296 | .i64 | .u64 => 18446744073709551616

def bitsOf : IntKind → Nat
  | .i8 | .u8 => 8 | .i16 | .u16 => 16 | .i32 | .u32 => 32 | .i64 | .u64 => 64

/-- A residue, as its kind reads it. -/
def backK (kk : IntKind) (m : Nat) (k : Int → Bool) : Bool :=
  match Nat.blt m (lim kk) with
  | true => natK m fun m => k (.ofNat m)
  | false => natK (Nat.pred (Nat.sub (modu kk) m)) fun m => k (.negSucc m)

def residue (kk : IntKind) : Int → Nat
  | .ofNat m => Nat.mod m (modu kk)
  | .negSucc m => Nat.sub (Nat.pred (modu kk)) (Nat.mod m (modu kk))

def wrapK (kk : IntKind) (n : Int) (k : Int → Bool) : Bool :=
  match n with
  | .ofNat m =>
    match Nat.blt m (lim kk) with
    | true => natK m fun m => k (.ofNat m)
    | false => natK (Nat.mod m (modu kk)) fun r => backK kk r k
  | .negSucc m => natK (Nat.sub (Nat.pred (modu kk)) (Nat.mod m (modu kk))) fun r => backK kk r k

def ltI (a b : Int) : Bool :=
  match a, b with
  | .ofNat m, .ofNat n => Nat.blt m n
  | .negSucc _, .ofNat _ => true
  | .ofNat _, .negSucc _ => false
  | .negSucc m, .negSucc n => Nat.blt n m

def eqI (a b : Int) : Bool :=
  match a, b with
  | .ofNat m, .ofNat n => Nat.beq m n
  | .negSucc m, .negSucc n => Nat.beq m n
  | .ofNat _, .negSucc _ => false
  | .negSucc _, .ofNat _ => false

def kindEq (a b : IntKind) : Bool :=
  match a, b with
  | .i8, .i8 => true
  | .i16, .i16 => true
  | .i32, .i32 => true
  | .i64, .i64 => true
  | .u8, .u8 => true
  | .u16, .u16 => true
  | .u32, .u32 => true
  | .u64, .u64 => true
  | _, _ => false

def strEq : List Nat → List Nat → Bool
  | [], [] => true
  | a :: x, b :: y => match Nat.beq a b with
    | true => strEq x y
    | false => false
  | _, _ => false

def strLt : List Nat → List Nat → Bool
  | _, [] => false
  | [], _ :: _ => true
  | a :: x, b :: y => match Nat.blt a b with
    | true => true
    | false => match Nat.beq a b with
      | true => strLt x y
      | false => false

def notK (b : Bool) (k : Bool → Bool) : Bool :=
  match b with
  | true => k false
  | false => k true

def intBin (op : BinOp) (kk : IntKind) (a b : Int) (k : AV → Bool) : Bool :=
  match op with
  | .add => wrapK kk (Int.add a b) fun n => k (.int kk n)
  | .sub => wrapK kk (Int.sub a b) fun n => k (.int kk n)
  | .mul => wrapK kk (Int.mul a b) fun n => k (.int kk n)
  | .quo => match eqI b (.ofNat 0) with
    | true => false
    | false => wrapK kk (Int.tdiv a b) fun n => k (.int kk n)
  | .rem => match eqI b (.ofNat 0) with
    | true => false
    | false => intK (Int.tmod a b) fun n => k (.int kk n)
  | .and => natK (Nat.land (residue kk a) (residue kk b)) fun r => backK kk r fun n => k (.int kk n)
  | .or => natK (Nat.lor (residue kk a) (residue kk b)) fun r => backK kk r fun n => k (.int kk n)
  | .xor => natK (Nat.xor (residue kk a) (residue kk b)) fun r => backK kk r fun n => k (.int kk n)
  | .eql => boolK (eqI a b) fun c => k (.bool c)
  | .neq => notK (eqI a b) fun c => k (.bool c)
  | .lss => boolK (ltI a b) fun c => k (.bool c)
  | .leq => notK (ltI b a) fun c => k (.bool c)
  | .gtr => boolK (ltI b a) fun c => k (.bool c)
  | .geq => notK (ltI a b) fun c => k (.bool c)
  | _ => false

def least (y m : Nat) : Nat :=
  match Nat.ble y m with
  | true => y
  | false => m

def shiftOf (op : BinOp) (kk : IntKind) (a : Int) (b : Int) (k : AV → Bool) : Bool :=
  match b with
  | .negSucc _ => false
  | .ofNat y =>
    natK (least y (bitsOf kk)) fun n =>
    match op with
    | .shl => wrapK kk (Int.mul a (.ofNat (Nat.pow 2 n))) fun n => k (.int kk n)
    | .shr => intK (Int.fdiv a (.ofNat (Nat.pow 2 n))) fun n => k (.int kk n)
    | _ => false

def strBin (op : BinOp) (x y : List Nat) (k : AV → Bool) : Bool :=
  match op with
  | .add => lenK x 0 fun m => lenK y m fun m => match Nat.blt m 9223372036854775808 with
    | true => catK x y fun l => k (.str l)
    | false => false
  | .eql => boolK (strEq x y) fun c => k (.bool c)
  | .neq => notK (strEq x y) fun c => k (.bool c)
  | .lss => boolK (strLt x y) fun c => k (.bool c)
  | .leq => notK (strLt y x) fun c => k (.bool c)
  | .gtr => boolK (strLt y x) fun c => k (.bool c)
  | .geq => notK (strLt x y) fun c => k (.bool c)
  | _ => false

def beqB (x y : Bool) : Bool :=
  match x with
  | true => y
  | false => match y with
    | true => false
    | false => true

/-- Equality on bools, and with nil. -/
def sameV (a b : AV) : Option Bool :=
  match a, b with
  | .bool x, .bool y => some (beqB x y)
  | .nilptr, .nilptr => some true
  | .nilptr, .ptr _ _ => some false
  | .ptr _ _, .nilptr => some false
  | .nilslice, .nilslice => some true
  | .nilslice, .slice .. => some false
  | .nilslice, .sliceU .. => some false
  | .slice .., .nilslice => some false
  | .sliceU .., .nilslice => some false
  | .nilmap, .nilmap => some true
  | .nilmap, .map _ => some false
  | .map _, .nilmap => some false
  | .nilFunc, .nilFunc => some true
  | .nilFunc, .func .. => some false
  | .func .., .nilFunc => some false
  | _, _ => none

/-- Which kind of type an equality's operands have. -/
def eqFits (E : Env) (t : TypeId) (a b : AV) (k : Bool → Bool) : Bool :=
  match sameV a b with
  | some r => E.und t fun d => match d, a, b with
    | .bool, .bool _, _ => k r
    | .pointer _, .nilptr, _ => k r
    | .pointer _, _, .nilptr => k r
    | .slice _, .nilslice, _ => k r
    | .slice _, _, .nilslice => k r
    | .map _ _, .nilmap, _ => k r
    | .map _ _, _, .nilmap => k r
    | .func _ _ _, .nilFunc, _ => k r
    | .func _ _ _, _, .nilFunc => k r
    | _, _, _ => false
  | none => match a, b with
    | .ptr b o, .ptr c p => match Nat.beq b c with
      | true => match Nat.beq o p with
        | true => E.und t fun d => match d with
          | .pointer e => E.sizeK e fun _ => k true
          | _ => false
        | false => false
      | false => false
    | _, _ => false

def binK (E : Env) (op : BinOp) (t : TypeId) (x y : AV) (k : AV → Bool) : Bool :=
  match x, y with
  | .int kk a, .int k' b =>
    match op with
    | .shl => shiftOf .shl kk a b k
    | .shr => shiftOf .shr kk a b k
    | _ => match kindEq kk k' with
      | true => intBin op kk a b k
      | false => false
  | .str a, .str b => strBin op a b k
  | x, y =>
    match op with
    | .eql => eqFits E t x y fun r => boolK r fun r => k (.bool r)
    | .neq => eqFits E t x y fun r => notK r fun r => k (.bool r)
    | _ => false

def unK (op : UnOp) (x : AV) (k : AV → Bool) : Bool :=
  match op, x with
  | .neg, .int kk n => wrapK kk (Int.sub (.ofNat 0) n) fun n => k (.int kk n)
  | .xor, .int kk n => natK (Nat.xor (Nat.pred (modu kk)) (residue kk n)) fun r => backK kk r fun n => k (.int kk n)
  | .not, .bool b => notK b fun b => k (.bool b)
  | _, _ => false

def bytesOfK : List AV → (List Nat → Bool) → Bool
  | [], k => k []
  | .int .u8 (.ofNat n) :: r, k => match Nat.blt n 256 with
    | true => bytesOfK r fun l => k (n :: l)
    | false => false
  | _, _ => false

def cellsOfK : List Nat → (List AV → Bool) → Bool
  | [], k => k []
  | n :: r, k => cellsOfK r fun l => k (.int .u8 (.ofNat n) :: l)

/-- The conversions that make no memory. -/
def convK (E : Env) (h : H) (src dst : TypeId) (x : AV) (k : AV → Bool) : Bool :=
  E.und src fun ds => E.und dst fun d =>
    match d, x with
    | .int kk, .int _ n => wrapK kk n fun n => k (.int kk n)
    | .string, .str s => k (.str s)
    | .string, .nilslice => match ds with
      | .slice e => E.und e fun d => match d with
        | .int .u8 => k (.str [])
        | _ => false
      | _ => false
    | .string, .slice b off len _ => match ds with
      | .slice e => E.und e fun d => match d with
        | .int .u8 => readK h b off len fun l => bytesOfK l fun s => k (.str s)
        | _ => false
      | _ => false
    | .string, .sliceU b off len _ => match ds with
      | .slice e => E.und e fun d => match d with
        | .int .u8 => readK h b off len fun l => bytesOfK l fun s => k (.str s)
        | _ => false
      | _ => false
    | .unsafePointer, .ptr b off => match ds with
      | .pointer t => E.sizeK t fun n => match n with
        | 0 => false
        | _ + 1 => match h.t.get b with
          | some (.cells cs _ _ _ _ _) => lenK cs 0 fun m => match Nat.blt off m with
            | true => k (.ptr b off)
            | false => false
          | _ => false
      | _ => false
    | .pointer u, .ptr b off => match ds with
      | .unsafePointer => E.sizeK u fun n => match n with
        | 0 => false
        | n + 1 => match h.t.get b with
          | some (.cells cs e _ _ _ false) => lenK cs 0 fun m => match Nat.beq e u with
            | true => match off with
              | 0 => match Nat.ble (Nat.succ n) m with
                | true => k (.ptr b 0)
                | false => false
              | _ + 1 => false
            | false => false
          | _ => false
      | _ => false
    | _, _ => false

/-- Put parts into cells. -/
def fillK (place : Nat → (Nat → Nat → Bool) → Bool) : List AV → List (Nat × AV) → (List AV → Bool) → Bool
  | cs, [], k => k cs
  | cs, (i, v) :: r, k => place i fun off size => lenK v.cells 0 fun m =>
    match Nat.beq m size with
    | true => putK cs off v.cells fun cs => fillK place cs r k
    | false => false

/-- Where a struct's fields lie. -/
def placesK (E : Env) : List Field → (List (Nat × Nat) → Bool) → Bool
  | [], k => k []
  | f :: fs, k => E.sizeK f.type fun n => natK f.offset fun o => placesK E fs fun r => k ((o, n) :: r)

def placeK (ps : List (Nat × Nat)) (i : Nat) (k : Nat → Nat → Bool) : Bool :=
  nthK ps i fun p => match p with
    | (o, n) => k o n

def elemK (n : Nat) (i : Nat) (k : Nat → Nat → Bool) : Bool := natK (Nat.mul i n) fun o => k o n

def natOf (v : AV) (k : Nat → Bool) : Bool :=
  match v with
  | .int _ (.ofNat n) => k n
  | _ => false

def optNat (d : Nat) (v : Option AV) (k : Nat → Bool) : Bool :=
  match v with
  | some v => natOf v k
  | none => k d

/-- Where a cut of a slice begins. -/
def cutOff (off l m z : Nat) : Nat :=
  match Nat.beq m l with
  | true => off
  | false => Nat.add off (Nat.mul l z)

def cutK (E : Env) (t : TypeId) (x : AV) (lo hi mx : Option AV) (k : AV → Bool) : Bool :=
  E.und t fun d =>
    match d, x with
    | .string, .str s => match mx with
      | some _ => false
      | none => lenK s 0 fun n => optNat n hi fun h => optNat 0 lo fun l =>
        match Nat.ble l h with
        | true => match Nat.ble h n with
          | true => dropK l s fun r => natK (Nat.sub h l) fun m => takeK m r fun s => k (.str s)
          | false => false
        | false => false
    | .slice e, .slice b off len cap => optNat cap mx fun m => optNat len hi fun h => optNat 0 lo fun l =>
      match Nat.ble m cap with
      | true => match Nat.ble h m with
        | true => match Nat.ble l h with
          | true => E.sizeK e fun z =>
            natK (cutOff off l m z) fun o => natK (Nat.sub h l) fun n => natK (Nat.sub m l) fun c => k (.slice b o n c)
          | false => false
        | false => false
      | false => false
    | .slice e, .sliceU b off len z => E.sizeK e fun z' => match Nat.beq z z' with
      | true => optNat len hi fun h => optNat 0 lo fun l =>
        match mx with
        | some v => natOf v fun m =>
          match Nat.ble m len with
          | true => match Nat.ble h m with
            | true => match Nat.ble l h with
              | true => natK (cutOff off l m z) fun o => natK (Nat.sub h l) fun n => natK (Nat.sub m l) fun c => k (.slice b o n c)
              | false => false
            | false => false
          | false => false
        | none =>
          match Nat.ble h len with
          | true => match Nat.ble l h with
            | true => match l with
              | 0 => k (.sliceU b off h z)
              | l + 1 => match Nat.blt (Nat.succ l) len with
                | true => natK (Nat.add off (Nat.mul (Nat.succ l) z)) fun o => natK (Nat.sub h (Nat.succ l)) fun n => k (.sliceU b o n z)
                | false => false
            | false => false
          | false => false
      | false => false
    | .slice e, .nilslice => E.sizeK e fun _ => optNat 0 mx fun m => optNat 0 hi fun h => optNat 0 lo fun l =>
      match m, h, l with
      | 0, 0, 0 => k .nilslice
      | _, _, _ => false
    | .array n e, .ptr b off => optNat n mx fun m => optNat n hi fun h => optNat 0 lo fun l =>
      match Nat.ble m n with
      | true => match Nat.ble h m with
        | true => match Nat.ble l h with
          | true => E.sizeK e fun z =>
            natK (cutOff off l m z) fun o => natK (Nat.sub h l) fun n => natK (Nat.sub m l) fun c => k (.slice b o n c)
          | false => false
        | false => false
      | false => false
    | _, _ => false

def sliceK (E : Env) (t : TypeId) (x : AV) (lo hi mx : Option AV) (k : AV → Bool) : Bool :=
  match mx, hi with
  | some _, none => false
  | some m, some h => cutK E t x lo (some h) (some m) k
  | none, hi => cutK E t x lo hi none k

def indexAddrK (E : Env) (t : TypeId) (x i : AV) (k : AV → Bool) : Bool :=
  natOf i fun i => E.und t fun d =>
    match d, x with
    | .slice e, .slice b off len _ => match Nat.blt i len with
      | true => E.sizeK e fun z => natK (Nat.add off (Nat.mul i z)) fun o => k (.ptr b o)
      | false => false
    | .slice e, .sliceU b off len _ => match Nat.blt i len with
      | true => E.sizeK e fun z => natK (Nat.add off (Nat.mul i z)) fun o => k (.ptr b o)
      | false => false
    | .array n e, .ptr b off => match Nat.blt i n with
      | true => E.sizeK e fun z => natK (Nat.add off (Nat.mul i z)) fun o => k (.ptr b o)
      | false => false
    | _, _ => false

def indexK (E : Env) (t : TypeId) (x i : AV) (k : AV → Bool) : Bool :=
  natOf i fun i => E.und t fun d =>
    match d, x with
    | .string, .str s => nthK s i fun n => k (.int .u8 (.ofNat n))
    | .array n e, .agg cs => match Nat.blt i n with
      | true => E.sizeK e fun z => natK (Nat.mul i z) fun o => partK E e cs o k
      | false => false
    | _, _ => false

/-- Keys: numbers, texts, bools. -/
def keyEq (a b : AV) : Option Bool :=
  match a, b with
  | .int k m, .int k' n => match kindEq k k' with
    | true => some (eqI m n)
    | false => none
  | .str a, .str b => some (strEq a b)
  | .bool x, .bool y => some (beqB x y)
  | _, _ => none

/-- Does a map's key type fit such a key? -/
def keyFits (d : TypeDesc) (key : AV) : Bool :=
  match d, key with
  | .int _, .int _ _ => true
  | .string, .str _ => true
  | .bool, .bool _ => true
  | _, _ => false

def findK (key : AV) : List (AV × AV) → (Option AV → Bool) → Bool
  | [], k => k none
  | (x, v) :: es, k => match keyEq key x with
    | some true => k (some v)
    | some false => findK key es k
    | none => false

def updK (key val : AV) : List (AV × AV) → (List (AV × AV) → Bool) → Bool
  | [], k => k [(key, val)]
  | (x, v) :: es, k => match keyEq key x with
    | some true => k ((key, val) :: es)
    | some false => updK key val es fun r => k ((x, v) :: r)
    | none => false

def delK (key : AV) : List (AV × AV) → (List (AV × AV) → Bool) → Bool
  | [], k => k []
  | (x, v) :: es, k => match keyEq key x with
    | some true => k es
    | some false => delK key es fun r => k ((x, v) :: r)
    | none => false

def lookK (ok : Bool) (v : AV) (is : Bool) (k : AV → Bool) : Bool :=
  match ok with
  | true => k (.tuple [v, .bool is])
  | false => k v

def lookupK (E : Env) (h : H) (t : TypeId) (x key : AV) (ok : Bool) (k : AV → Bool) : Bool :=
  E.und t fun d =>
    match d with
    | .map kt e => E.und kt fun kd => match keyFits kd key with
      | true =>
        match x with
        | .nilmap => E.zeroK e fun v => lookK ok v false k
        | .map b => match h.t.get b with
          | some (.map es) => findK key es fun r => match r with
            | some v => lookK ok v true k
            | none => E.zeroK e fun v => lookK ok v false k
          | _ => false
        | _ => false
      | false => false
    | _ => false

def mapSetK (E : Env) (h : H) (t : TypeId) (m key val : AV) (k : H → Bool) : Bool :=
  E.und t fun d =>
    match d with
    | .map kt _ => E.und kt fun kd => match keyFits kd key with
      | true =>
        match m with
        | .map b => match h.t.get b with
          | some (.map es) => updK key val es fun es => setObjK h b (some (.map es)) k
          | _ => false
        | _ => false
      | false => false
    | _ => false

/-- The cells of what is copied. -/
def srcK (h : H) (z : Nat) (x : AV) (n : Nat) (k : List AV → Bool) : Bool :=
  match x with
  | .nilslice => k []
  | .slice b off _ _ => readK h b off (Nat.mul n z) k
  | .sliceU b off _ _ => readK h b off (Nat.mul n z) k
  | .str s => takeK n s fun s => cellsOfK s k
  | _ => false

def lengthK (x : AV) (k : Nat → Bool) : Bool :=
  match x with
  | .nilslice => k 0
  | .slice _ _ n _ => k n
  | .sliceU _ _ n _ => k n
  | .str s => lenK s 0 k
  | _ => false

def small : Nat := 1048576

def lowOk (lo hi off : Nat) : Bool :=
  match Nat.ble hi lo with
  | true => true
  | false => Nat.ble off lo

/-- What a slice grows to: a block of its own. -/
def growK (h : H) (e : TypeId) (z b off len n : Nat) (new : List AV) (k : AV → H → Bool) : Bool :=
  readK h b off (Nat.mul len z) fun old => catK old new fun cs => natK (Nat.add len n) fun m =>
    match Nat.ble m small with
    | true => newK h (.cells cs e 0 0 false false) fun b h => k (.sliceU b 0 m z) h
    | false => false

/-- The same, where the elder block may be that very one: it is not looked at any more. -/
def moveK (h : H) (e : TypeId) (z b off len n : Nat) (new : List AV) (lo hi : Nat) (mk : Bool) (k : AV → H → Bool) : Bool :=
  readK h b off (Nat.mul len z) fun old => catK old new fun cs => natK (Nat.add len n) fun m =>
    match Nat.ble m small with
    | true => match lowOk lo hi off with
      | true => natK (Nat.sub lo off) fun lo => natK (Nat.sub hi off) fun hi =>
        setObjK h b none fun h => newK h (.cells cs e lo hi mk true) fun b h => k (.sliceU b 0 m z) h
      | false => false
    | false => false

def appendTo (h : H) (e : TypeId) (z : Nat) (s : AV) (n : Nat) (new : List AV) (k : AV → H → Bool) : Bool :=
  match s with
  | .nilslice => match n with
    | 0 => k .nilslice h
    | n + 1 => newK h (.cells new e 0 0 false false) fun b h => k (.sliceU b 0 (Nat.succ n) z) h
  | .slice b off len cap =>
    natK (Nat.add len n) fun m =>
    match Nat.ble m cap with
    | true => match new with
      | [] => k (.slice b off m cap) h
      | c :: cs => natK (Nat.add off (Nat.mul len z)) fun o => writeK h b o (c :: cs) fun h => k (.slice b off m cap) h
    | false => growK h e z b off len n new k
  | .sliceU b off len z' => match Nat.beq z z' with
    | true => match n with
      | 0 => k (.sliceU b off len z') h
      | n + 1 => match h.t.get b with
        | some (.cells cs e' lo hi mk _) => natK (Nat.add off (Nat.mul len z)) fun o => lenK cs 0 fun m =>
          match Nat.beq m o with
          | true => match Nat.ble hi o with
            | true => match Nat.beq e e' with
              | true => moveK h e z b off len (Nat.succ n) new lo hi mk k
              | false => false
            | false => false
          | false => false
        | _ => false
    | false => false
  | _ => false

/-- Append, its new cells known. -/
def appendNew (h : H) (e : TypeId) (z : Nat) (s : AV) (n : Nat) (k : AV → H → Bool) (new : List AV) : Bool :=
  match allOne new with
  | true => lenK new 0 fun l => match Nat.beq l (Nat.mul n z) with
    | true => appendTo h e z s n new k
    | false => false
  | false => false

def appendSrc (h : H) (e : TypeId) (z : Nat) (s x : AV) (k : AV → H → Bool) : Bool :=
  lengthK x fun n => match Nat.ble n small with
    | true => srcK h z x n (appendNew h e z s n k)
    | false => false

def appendK (E : Env) (h : H) (ts : List TypeId) (args : List AV) (k : AV → H → Bool) : Bool :=
  match ts, args with
  | [st, xt], [s, x] =>
    E.und st fun d =>
      match d with
      | .slice e => match E.ty.get e with
        | some i => match Nat.ble i.bytes small with
          | true => E.zcellsK e fun zc => E.und xt fun d => natK i.size fun z =>
            match d with
            | .int _ => natOf x fun n => match Nat.ble n small with
              | true => repK n zc [] (appendNew h e z s n k)
              | false => false
            | .slice _ => appendSrc h e z s x k
            | .string => appendSrc h e z s x k
            | _ => false
          | false => false
        | none => false
      | _ => false
  | _, _ => false

def minK (n m : Nat) (k : Nat → Bool) : Bool :=
  match Nat.ble n m with
  | true => k n
  | false => k m

def copyK (E : Env) (h : H) (ts : List TypeId) (args : List AV) (k : AV → H → Bool) : Bool :=
  match ts, args with
  | st :: _, [d, x] => E.und st fun dd => match dd with
    | .slice e => E.sizeK e fun z => lengthK x fun n => lengthK d fun m =>
      minK n m fun n => srcK h z x n fun new =>
      match d with
      | .nilslice => match new with
        | [] => k (.int .i64 (.ofNat n)) h
        | _ :: _ => false
      | .slice b off _ _ => writeK h b off new fun h => k (.int .i64 (.ofNat n)) h
      | .sliceU b off _ _ => writeK h b off new fun h => k (.int .i64 (.ofNat n)) h
      | _ => false
    | _ => false
  | _, _ => false

def clearK (E : Env) (h : H) (ts : List TypeId) (args : List AV) (k : AV → H → Bool) : Bool :=
  match ts, args with
  | [t], [x] => E.und t fun d =>
    match d, x with
    | .map _ _, .nilmap => k (.tuple []) h
    | .slice _, .nilslice => k (.tuple []) h
    | .slice _, .slice _ _ 0 _ => k (.tuple []) h
    | .slice _, .sliceU _ _ 0 _ => k (.tuple []) h
    | .map _ _, .map b => match h.t.get b with
      | some (.map _) => setObjK h b (some (.map [])) fun h => k (.tuple []) h
      | _ => false
    | .slice e, .slice b off n _ => E.zeroK e fun v => repK n v.cells [] fun new => writeK h b off new fun h => k (.tuple []) h
    | .slice e, .sliceU b off n _ => E.zeroK e fun v => repK n v.cells [] fun new => writeK h b off new fun h => k (.tuple []) h
    | _, _ => false
  | _, _ => false

def maxK (big : Bool) : AV → List AV → (AV → Bool) → Bool
  | x, [], k => k x
  | .int kk a, .int kk' b :: r, k => match kindEq kk kk' with
    | true => match big with
      | true => match ltI a b with
        | true => maxK big (.int kk b) r k
        | false => maxK big (.int kk a) r k
      | false => match ltI b a with
        | true => maxK big (.int kk b) r k
        | false => maxK big (.int kk a) r k
    | false => false
  | _, _, _ => false

def lenOfK (E : Env) (h : H) (ts : List TypeId) (args : List AV) (k : AV → Bool) : Bool :=
  match ts, args with
  | [t], [x] => E.und t fun d =>
    match d, x with
    | .string, .str s => lenK s 0 fun n => k (.int .i64 (.ofNat n))
    | .slice _, .nilslice => k (.int .i64 (.ofNat 0))
    | .slice _, .slice _ _ n _ => k (.int .i64 (.ofNat n))
    | .slice _, .sliceU _ _ n _ => k (.int .i64 (.ofNat n))
    | .map _ _, .nilmap => k (.int .i64 (.ofNat 0))
    | .map _ _, .map b => match h.t.get b with
      | some (.map es) => lenK es 0 fun n => k (.int .i64 (.ofNat n))
      | _ => false
    | _, _ => false
  | _, _ => false

def capOfK (E : Env) (ts : List TypeId) (args : List AV) (k : AV → Bool) : Bool :=
  match ts, args with
  | [t], [x] => E.und t fun d =>
    match d, x with
    | .slice _, .nilslice => k (.int .i64 (.ofNat 0))
    | .slice _, .slice _ _ _ c => k (.int .i64 (.ofNat c))
    | _, _ => false
  | _, _ => false

def deleteK (E : Env) (h : H) (ts : List TypeId) (args : List AV) (k : AV → H → Bool) : Bool :=
  match ts, args with
  | t :: _, [m, key] => E.und t fun d =>
    match d with
    | .map kt _ => E.und kt fun kd => match keyFits kd key with
      | true => match m with
        | .nilmap => k (.tuple []) h
        | .map b => match h.t.get b with
          | some (.map es) => delK key es fun es => setObjK h b (some (.map es)) fun h => k (.tuple []) h
          | _ => false
        | _ => false
      | false => false
    | _ => false
  | _, _ => false

/-- The frozen range with so many cells more. -/
def wideLo (lo hi off : Nat) : Nat :=
  match Nat.ble hi lo with
  | true => off
  | false => match Nat.ble lo off with
    | true => lo
    | false => off

def wideHi (lo hi off n : Nat) : Nat :=
  match Nat.ble hi lo with
  | true => Nat.add off n
  | false => match Nat.ble hi (Nat.add off n) with
    | true => Nat.add off n
    | false => hi

def unsafeStringK (E : Env) (h : H) (ts : List TypeId) (args : List AV) (k : AV → H → Bool) : Bool :=
  match ts, args with
  | pt :: _, [p, n] => natOf n fun n => match p, n with
    | .nilptr, 0 => k (.str []) h
    | .ptr _ _, 0 => k (.str []) h
    | .ptr b off, n + 1 => E.und pt fun d => match d with
      | .pointer u => E.sizeK u fun z => match z with
        | 1 => match h.t.get b with
          | some (.cells cs e lo hi false sh) => match Nat.beq e u with
            | true => match Nat.ble (Nat.succ n) small with
              | false => false
              | true => readK h b off (Nat.succ n) fun l => bytesOfK l fun s =>
              natK (wideLo lo hi off) fun lo' => natK (wideHi lo hi off (Nat.succ n)) fun hi' =>
              setObjK h b (some (.cells cs e lo' hi' false sh)) fun h => k (.str s) h
            | false => false
          | _ => false
        | _ => false
      | _ => false
    | _, _ => false
  | _, _ => false

def sliceDataK (args : List AV) (k : AV → Bool) : Bool :=
  match args with
  | [.nilslice] => k .nilptr
  | [.slice b off _ (_ + 1)] => k (.ptr b off)
  | [.sliceU b off (_ + 1) _] => k (.ptr b off)
  | _ => false

/- Operands. -/

def opnd (r : Regs) (x : Operand) (k : AV → Bool) : Bool :=
  match x with
  | .tmp t => match r.get t with
    | some v => k v
    | none => k (.tuple [])
  | .const v => constK v k
  | .func f => k (.func f [] [])
  | .global _ => false

def opndO (r : Regs) (x : Option Operand) (k : Option AV → Bool) : Bool :=
  match x with
  | some x => opnd r x fun v => k (some v)
  | none => k none

def opnds (r : Regs) : List Operand → (List AV → Bool) → Bool
  | [], k => k []
  | x :: xs, k => opnd r x fun v => opnds r xs fun vs => k (v :: vs)

def partsK (r : Regs) : List (Nat × Operand) → (List (Nat × AV) → Bool) → Bool
  | [], k => k []
  | (i, x) :: xs, k => opnd r x fun v => partsK r xs fun vs => k ((i, v) :: vs)

/-- What an operation does to memory: nothing; it makes a block; anything. -/
inductive Cls where
  | quiet
  | make
  | loud

def clsOf (E : Env) (o : Oper) (k : Cls → Bool) : Bool :=
  match o.op with
  | .alloc _ => k .make
  | .box _ _ => k .make
  | .buildSlice _ _ _ => k .make
  | .makeMap _ _ => k .make
  | .makeSlice _ _ _ => k .make
  | .store _ _ _ => k .loud
  | .mapUpdate _ _ _ _ => k .loud
  | .insert _ _ _ _ => k .loud
  | .convert _ d _ => E.und d fun d => match d with
    | .slice _ => k .loud
    | _ => k .quiet
  | .call c => match c.callee with
    | .builtin .len => k .quiet
    | .builtin .cap => k .quiet
    | .builtin .max => k .quiet
    | .builtin .min => k .quiet
    | .builtin .unsafeSliceData => k .quiet
    | _ => k .loud
  | _ => k .quiet

def quietK (E : Env) (o : Oper) (r : Regs) (h : H) (k : AV → Bool) : Bool :=
  match o.op with
  | .move x => opnd r x k
  | .assign x => opnd r x k
  | .pick c a b => opnd r c fun v => match v with
    | .bool true => opnd r a k
    | .bool false => opnd r b k
    | _ => false
  | .build t ps => E.zeroK t fun z => partsK r ps.toList fun ps => E.und t fun d => match d with
    | .struct fs => placesK E fs.toList fun pl => fillK (placeK pl) z.cells ps fun cs => k (.agg cs)
    | .array _ e => E.sizeK e fun n => fillK (elemK n) z.cells ps fun cs => k (.agg cs)
    | _ => false
  | .load t a => opnd r a fun a => loadK E h t a k
  | .nilCheck x => opnd r x fun v => match v with
    | .ptr b o => k (.ptr b o)
    | .func f a c => k (.func f a c)
    | _ => false
  | .binOp op t x y _ => opnd r x fun x => opnd r y fun y => binK E op t x y k
  | .unOp op _ x => opnd r x fun x => unK op x k
  | .convert s d x => opnd r x fun x => convK E h s d x k
  | .makeInterface t x => opnd r x fun x => E.und t fun d => match d with
    | .interface _ => false
    | _ => k (.iface t x)
  | .makeFunc fn first captured => match fn with
    | .func f => opnds r first.toList fun a => opnds r captured.toList fun b => k (.func f a b)
    | _ => false
  | .slice t x lo hi mx => opnd r x fun x => opndO r lo fun lo => opndO r hi fun hi => opndO r mx fun mx => sliceK E t x lo hi mx k
  | .fieldAddr s x f => opnd r x fun x => E.und s fun d => match d with
    | .struct fs => nthK fs.toList f fun f => E.sizeK f.type fun n => match n, x with
      | _ + 1, .ptr b off => natK (Nat.add off f.offset) fun o => k (.ptr b o)
      | _, _ => false
    | _ => false
  | .field t x f => opnd r x fun x => E.und t fun d => match d with
    | .struct fs => nthK fs.toList f fun f => match x with
      | .agg cs => natK f.offset fun o => partK E f.type cs o k
      | _ => false
    | _ => false
  | .indexAddr t x i => opnd r x fun x => opnd r i fun i => indexAddrK E t x i k
  | .index t x i => opnd r x fun x => opnd r i fun i => indexK E t x i k
  | .lookup t x i ok => opnd r x fun x => opnd r i fun i => lookupK E h t x i ok k
  | .extract t i => opnd r t fun v => match v with
    | .tuple vs => nthK vs i k
    | _ => false
  | .call c => match c.callee with
    | .builtin .len => opnds r c.args.toList fun args => lenOfK E h c.argTypes.toList args k
    | .builtin .cap => opnds r c.args.toList fun args => capOfK E c.argTypes.toList args k
    | .builtin .max => opnds r c.args.toList fun args => match args with
      | x :: xs => maxK true x xs k
      | [] => false
    | .builtin .min => opnds r c.args.toList fun args => match args with
      | x :: xs => maxK false x xs k
      | [] => false
    | .builtin .unsafeSliceData => opnds r c.args.toList fun args => sliceDataK args k
    | _ => false
  | _ => false

/-- What an operation makes: the object, and what the block's name then gives. -/
def makeK (E : Env) (o : Oper) (r : Regs) (k : AObj → (Nat → AV) → Bool) : Bool :=
  match o.op with
  | .alloc e => E.zeroK e fun v => k (.cells v.cells e 0 0 false false) fun b => .ptr b 0
  | .box e x => opnd r x fun v => k (.cells v.cells e 0 0 false false) fun b => .ptr b 0
  | .buildSlice t len ps => E.und t fun d => match d with
    | .slice e => E.zcellsK e fun z => E.sizeK e fun n => partsK r ps.toList fun ps => natK len fun len =>
      match Nat.ble (Nat.mul len n) 16777216 with
      | true => repK len z [] fun cs => fillK (elemK n) cs ps fun cs => k (.cells cs e 0 0 false false) fun b => .slice b 0 len len
      | false => false
    | _ => false
  | .makeMap t re => E.und t fun d => match d with
    | .map _ _ => opndO r re fun re => match re with
      | none => k (.map []) fun b => .map b
      | some (.int _ _) => k (.map []) fun b => .map b
      | _ => false
    | _ => false
  | .makeSlice t l c => opnd r l fun l => opnd r c fun c => natOf l fun l => natOf c fun c =>
    match Nat.ble l c with
    | true => match Nat.ble c small with
      | true => E.und t fun d => match d with
        | .slice e => match E.ty.get e with
          | some i => match Nat.ble i.bytes small with
            | true => E.zcellsK e fun z => repK c z [] fun cs => k (.cells cs e 0 0 false false) fun b => .slice b 0 l c
            | false => false
          | none => false
        | _ => false
      | false => false
    | false => false
  | _ => false

abbrev CallT := FuncId → List AV → H → (AV → H → Bool) → Bool

def loudK (E : Env) (call : CallT) (o : Oper) (r : Regs) (h : H) (k : AV → H → Bool) : Bool :=
  match o.op with
  | .store t a x => opnd r a fun a => opnd r x fun x => storeK E h t a x fun h => k (.tuple []) h
  | .mapUpdate t m key x => opnd r m fun m => opnd r key fun key => opnd r x fun x => mapSetK E h t m key x fun h => k (.tuple []) h
  | .insert t m key x => opnd r m fun m => opnd r key fun key => opnd r x fun x => mapSetK E h t m key x fun h => k (.tuple []) h
  | .convert s d x => opnd r x fun x => E.und s fun _ => E.und d fun d => match d, x with
    | .slice e, .str s => E.und e fun d => match d with
      | .int .u8 => lenK s 0 fun n => cellsOfK s fun cs => newK h (.cells cs e 0 0 true false) fun b h => k (.sliceU b 0 n 1) h
      | _ => false
    | _, _ => false
  | .call c => opnds r c.args.toList fun args =>
    match c.callee with
    | .builtin b => match b with
      | .append => appendK E h c.argTypes.toList args k
      | .copy => copyK E h c.argTypes.toList args k
      | .clear => clearK E h c.argTypes.toList args k
      | .delete => deleteK E h c.argTypes.toList args k
      | .unsafeString => unsafeStringK E h c.argTypes.toList args k
      | _ => false
    | .value f => opnd r f fun f => match f with
      | .func f first captured => catK args captured fun a => catK first a fun a => call f a h k
      | _ => false
    | .invoke _ _ => false
  | _ => false

def opK (E : Env) (call : CallT) (o : Oper) (r : Regs) (h : H) (k : AV → H → Bool) : Bool :=
  clsOf E o fun c => match c with
    | .quiet => quietK E o r h fun v => k v h
    | .make => makeK E o r fun ob v => newK h ob fun b h => k (v b) h
    | .loud => loudK E call o r h k

def guardK (ops : List Oper) (o : Oper) (r : Regs) (k : Bool → Bool) : Bool :=
  match o.guard with
  | none => k true
  | some (j, want) => nthK ops j fun p => match p.dst with
    | some t => match r.get t with
      | some (.bool b) => match b, want with
        | true, true => k true
        | false, false => k true
        | true, false => k false
        | false, true => k false
      | _ => k false
    | none => k false

/-- The slots: n of them. -/
def dstK (n : Nat) (r : Regs) (d : Option Tmp) (v : AV) (k : Regs → Bool) : Bool :=
  match d with
  | some t => match Nat.blt t n with
    | true => T.setK deepest r t (some v) k
    | false => false
  | none => k r

/-- Operations in the order of the text. -/
def opsK (E : Env) (n : Nat) (call : CallT) (all : List Oper) : List Oper → Regs → H → (Regs → H → Bool) → Bool
  | [], r, h, k => k r h
  | o :: os, r, h, k => guardK all o r fun g => match g with
    | true => opK E call o r h fun v h => dstK n r o.dst v fun r => opsK E n call all os r h k
    | false => dstK n r o.dst (.tuple []) fun r => opsK E n call all os r h k

inductive Ex where
  | normal
  | exit (id : Nat)
  | ret

abbrev CodeT := Regs → H → (Ex → Regs → H → Bool) → Bool

def loopK (body : CodeT) : Nat → CodeT
  | 0 => fun _ _ _ => false
  | n + 1 => fun r h k => body r h fun e r h =>
    match e with
    | .normal => loopK body n r h k
    | .exit id => k (.exit id) r h
    | .ret => k .ret r h

def rounds : Nat := 1000000
end Go.Proofs.YtnjobinioalipaaGreatDoor.Ev
