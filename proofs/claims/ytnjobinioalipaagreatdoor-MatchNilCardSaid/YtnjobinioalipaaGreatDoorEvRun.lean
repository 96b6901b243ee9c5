/- The evaluator, second part: regions that leave their order open, code, calls. -/
import Derived.Test.YtnjobinioalipaaGreatDoorEvDefs
namespace Go.Proofs.YtnjobinioalipaaGreatDoor.Ev
open Go

def eqList {α : Type} (eq : α → α → Bool) : List α → List α → Bool
  | [], [] => true
  | a :: x, b :: y => match eq a b with
    | true => eqList eq x y
    | false => false
  | _, _ => false

def eq0 (a b : AV) : Bool :=
  match a, b with
  | .bool x, .bool y => match x with | true => y | false => match y with | true => false | false => true
  | .int k m, .int k' n => match kindEq k k' with
    | true => eqI m n
    | false => false
  | .str x, .str y => strEq x y
  | .ptr b o, .ptr c p => match Nat.beq b c with
    | true => Nat.beq o p
    | false => false
  | .nilptr, .nilptr => true
  | .slice b o l c, .slice b' o' l' c' => match Nat.beq b b', Nat.beq o o', Nat.beq l l' with
    | true, true, true => Nat.beq c c'
    | _, _, _ => false
  | .sliceU b o l c, .sliceU b' o' l' c' => match Nat.beq b b', Nat.beq o o', Nat.beq l l' with
    | true, true, true => Nat.beq c c'
    | _, _, _ => false
  | .nilslice, .nilslice => true
  | .map b, .map c => Nat.beq b c
  | .nilmap, .nilmap => true
  | .nilFunc, .nilFunc => true
  | .nilIface, .nilIface => true
  | _, _ => false

def eqAV (a b : AV) : Bool :=
  match a, b with
  | .agg x, .agg y => eqList eq0 x y
  | .tuple x, .tuple y => eqList eq0 x y
  | .func f x y, .func f' x' y' => match Nat.beq f f', eqList eq0 x x' with
    | true, true => eqList eq0 y y'
    | _, _ => false
  | a, b => eq0 a b

def has (m i : Nat) : Bool :=
  match Nat.land (Nat.shiftRight m i) 1 with
  | 0 => false
  | _ + 1 => true

def edgesK (masks : T Nat) (i : Nat) : List Edge → Nat → (Nat → Bool) → Bool
  | [], m, k => natK m k
  | e :: es, m, k =>
    match e.ground with
    | .textOnly _ => edgesK masks i es m k
    | .gcOnly _ => edgesK masks i es m k
    | _ => match Nat.blt e.on i with
      | true => match masks.get e.on with
        | some me => natK (Nat.lor (Nat.lor m (Nat.pow 2 e.on)) me) fun m => edgesK masks i es m k
        | none => false
      | false => false

/-- Of each operation, what is done ahead of it in every order. -/
def masksK : List Oper → Nat → T Nat → (T Nat → Bool) → Bool
  | [], _, t, k => k t
  | o :: os, i, t, k => edgesK t i o.after.toList 0 fun m => T.setK deepest t i (some m) fun t => natK (Nat.succ i) fun i => masksK os i t k

/-- Which operation writes a slot: one alone. -/
def writersK : List Oper → Nat → T Nat → (T Nat → Bool) → Bool
  | [], _, t, k => k t
  | o :: os, i, t, k => natK (Nat.succ i) fun j => match o.dst with
    | none => writersK os j t k
    | some d => match t.get d with
      | some _ => false
      | none => T.setK deepest t d (some i) fun t => writersK os j t k

/-- Is a slot that an operation looks at written ahead of it, or behind it, in every order? -/
def looksOk (masks writers : T Nat) (j mask : Nat) : List Operand → Bool
  | [] => true
  | .tmp t :: xs => match writers.get t with
    | none => looksOk masks writers j mask xs
    | some i => match Nat.beq i j with
      | true => looksOk masks writers j mask xs
      | false => match has mask i with
        | true => looksOk masks writers j mask xs
        | false => match masks.get i with
          | some mi => match has mi j with
            | true => looksOk masks writers j mask xs
            | false => false
          | none => false
  | _ :: xs => looksOk masks writers j mask xs

/-- A guard's operation is done ahead. -/
def guardOk (mask : Nat) (g : Option (Nat × Bool)) : Bool :=
  match g with
  | none => true
  | some (j, _) => has mask j

def allLook (masks writers : T Nat) : List Oper → Nat → Bool
  | [], _ => true
  | o :: os, j => match masks.get j with
    | some mask => match looksOk masks writers j mask o.op.operands.toList with
      | true => match guardOk mask o.guard with
        | true => allLook masks writers os (Nat.succ j)
        | false => false
      | false => false
    | none => false

/-- Those that may turn memory. -/
def loudsK (E : Env) : List Oper → Nat → (List (Nat × Oper) → Bool) → Bool
  | [], _, k => k []
  | o :: os, i, k => natK (Nat.succ i) fun j => clsOf E o fun c => match c with
    | .loud => loudsK E os j fun l => k ((i, o) :: l)
    | .quiet => loudsK E os j k
    | .make => loudsK E os j k

def countMakes (E : Env) : List Oper → Nat → (Nat → Bool) → Bool
  | [], n, k => natK n k
  | o :: os, n, k => clsOf E o fun c => match c with
    | .make => natK (Nat.succ n) fun n => countMakes E os n k
    | .quiet => countMakes E os n k
    | .loud => countMakes E os n k

/-- How many of the loud ones are ahead. -/
def lowK (mask : Nat) : List (Nat × Oper) → Nat → (Nat → Bool) → Bool
  | [], n, k => natK n k
  | (i, _) :: l, n, k => match has mask i with
    | true => natK (Nat.succ n) fun n => lowK mask l n k
    | false => lowK mask l n k

/-- What was made: which operation, its name, the object, how many loud ones were done then. -/
structure Mk where
  op : Nat
  id : Nat
  ob : AObj
  lvl : Nat

/-- Memory with what was made since, of those in the mask. -/
def withMk (mask lvl : Nat) : List Mk → H → (H → Bool) → Bool
  | [], h, k => k h
  | ⟨i, id, ob, l⟩ :: ms, h, k => match Nat.ble lvl l with
    | true => match has mask i with
      | true => setObjK h id (some ob) fun h => withMk mask lvl ms h k
      | false => withMk mask lvl ms h k
    | false => withMk mask lvl ms h k

/-- Memory with all that was made since; all of it is in the mask. -/
def withAll (mask lvl : Nat) : List Mk → H → (H → Bool) → Bool
  | [], h, k => k h
  | ⟨i, id, ob, l⟩ :: ms, h, k => match Nat.ble lvl l with
    | true => match has mask i with
      | true => setObjK h id (some ob) fun h => withAll mask lvl ms h k
      | false => false
    | false => withAll mask lvl ms h k

/-- An operation that only looks gives the same at each of the elder memories. -/
def sameAt (E : Env) (o : Oper) (r : Regs) (mask : Nat) (mk : List Mk) (v : AV) : Nat → Nat → List H → Bool
  | 0, _, _ => true
  | n + 1, lvl, h :: hs => match withMk mask lvl mk h (fun h => quietK E o r h fun w => eqAV v w) with
    | true => sameAt E o r mask mk v n (Nat.pred lvl) hs
    | false => false
  | _ + 1, _, [] => false

abbrev SmallT := Nat → List Mk → Nat → Regs → Bool

/-- An operation that is not loud, in a region's one order. d: what is done; m: how many loud ones; hs: memory behind each of them, the last one first; c: the next name. -/
def smallOp (E : Env) (n lim : Nat) (all : List Oper) (masks : T Nat) (louds : List (Nat × Oper)) (j : Nat) (o : Oper)
    (d m : Nat) (hs : List H) (mk : List Mk) (c : Nat) (r : Regs) (k : SmallT) : Bool :=
  match masks.get j with
  | some mask => match Nat.beq (Nat.land mask d) mask with
    | true => guardK all o r fun g => match g with
      | false => dstK n r o.dst (.tuple []) fun r => natK (Nat.lor d (Nat.pow 2 j)) fun d => k d mk c r
      | true => clsOf E o fun cl => match cl with
        | .quiet => match hs with
          | h :: hs => withMk mask m mk h fun h => quietK E o r h fun v => lowK mask louds 0 fun low =>
            match sameAt E o r mask mk v (Nat.sub m low) (Nat.pred m) hs with
            | true => dstK n r o.dst v fun r => natK (Nat.lor d (Nat.pow 2 j)) fun d => k d mk c r
            | false => false
          | [] => false
        | .make => match Nat.blt c lim with
          | true => makeK E o r fun ob v => dstK n r o.dst (v c) fun r => natK (Nat.lor d (Nat.pow 2 j)) fun d => natK (Nat.succ c) fun c' => k d (⟨j, c, ob, m⟩ :: mk) c' r
          | false => false
        | .loud => false
    | false => false
  | none => false

def chosen (sel : Option Nat) (j : Nat) : Bool :=
  match sel with
  | some s => has s j
  | none => true

/-- All of a mask that are not done yet and not loud, in the order of the text. -/
def phaseK (E : Env) (n lim : Nat) (all : List Oper) (masks : T Nat) (louds : List (Nat × Oper)) (sel : Option Nat) :
    List Oper → Nat → Nat → Nat → List H → List Mk → Nat → Regs → SmallT → Bool
  | [], _, d, _, _, mk, c, r, k => k d mk c r
  | o :: os, j, d, m, hs, mk, c, r, k =>
    natK (Nat.succ j) fun j' => match has d j with
    | true => phaseK E n lim all masks louds sel os j' d m hs mk c r k
    | false => match chosen sel j with
      | false => phaseK E n lim all masks louds sel os j' d m hs mk c r k
      | true => clsOf E o fun cl => match cl with
        | .loud => phaseK E n lim all masks louds sel os j' d m hs mk c r k
        | .quiet => smallOp E n lim all masks louds j o d m hs mk c r fun d mk c r => phaseK E n lim all masks louds sel os j' d m hs mk c r k
        | .make => smallOp E n lim all masks louds j o d m hs mk c r fun d mk c r => phaseK E n lim all masks louds sel os j' d m hs mk c r k

def prevOk (mask : Nat) : Option Nat → Bool
  | none => true
  | some p => has mask p

/-- The loud ones, each behind what must be ahead of it; then the rest. -/
def chainK (E : Env) (n lim : Nat) (call : CallT) (all : List Oper) (masks : T Nat) (louds : List (Nat × Oper)) :
    List (Nat × Oper) → Option Nat → Nat → Nat → List H → List Mk → Nat → Regs → (Regs → H → Bool) → Bool
  | [], _, d, m, hs, mk, c, r, k => phaseK E n lim all masks louds none all 0 d m hs mk c r fun d mk _ r =>
    match Nat.beq (Nat.succ d) (Nat.pow 2 all.length), hs with
    | true, h :: _ => withAll d m mk h fun h => k r h
    | _, _ => false
  | (j, o) :: l, prev, d, m, hs, mk, c, r, k =>
    match masks.get j with
    | some mask => match prevOk mask prev with
      | true => phaseK E n lim all masks louds (some mask) all 0 d m hs mk c r fun d mk c r =>
        match Nat.beq (Nat.land mask d) mask, hs with
        | true, h :: hs => withAll mask m mk h fun h' => guardK all o r fun g => match g with
          | true => loudK E call o r h' fun v h'' => dstK n r o.dst v fun r => natK (Nat.lor d (Nat.pow 2 j)) fun d =>
            chainK E n lim call all masks louds l (some j) d (Nat.succ m) (h'' :: h :: hs) mk c r k
          | false => dstK n r o.dst (.tuple []) fun r => natK (Nat.lor d (Nat.pow 2 j)) fun d =>
            chainK E n lim call all masks louds l (some j) d (Nat.succ m) (h' :: h :: hs) mk c r k
        | _, _ => false
      | false => false
    | none => false

/-- A region that leaves its order open. -/
def drawK (E : Env) (n : Nat) (call : CallT) (ops : List Oper) (r : Regs) (h : H) (k : Regs → H → Bool) : Bool :=
  masksK ops 0 .leaf fun masks => writersK ops 0 .leaf fun writers =>
  match allLook masks writers ops 0 with
  | true => loudsK E ops 0 fun louds => countMakes E ops 0 fun makes => match h with
    | ⟨ht, hn⟩ => natK (Nat.add hn makes) fun next => chainK E n next call ops masks louds louds none 0 0 [⟨ht, next⟩] [] hn r k
  | false => false

def codeK (E : Env) (n : Nat) (call : CallT) : Code → CodeT
  | .skip => fun r h k => k .normal r h
  | .region _ ops draw => fun r h k => match draw with
    | true => drawK E n call ops.toList r h fun r h => k .normal r h
    | false => opsK E n call ops.toList ops.toList r h fun r h => k .normal r h
  | .seq a b => fun r h k => codeK E n call a r h fun e r h =>
    match e with
    | .normal => codeK E n call b r h k
    | .exit id => k (.exit id) r h
    | .ret => k .ret r h
  | .cond c a b => fun r h k => opnd r c fun v => match v with
    | .bool true => codeK E n call a r h k
    | .bool false => codeK E n call b r h k
    | _ => false
  | .block id c => fun r h k => codeK E n call c r h fun e r h =>
    match e with
    | .exit j => match Nat.beq j id with
      | true => k .normal r h
      | false => k (.exit j) r h
    | .normal => k .normal r h
    | .ret => k .ret r h
  | .loop c => fun r h k => loopK (codeK E n call c) rounds r h k
  | .exit id => fun r h k => k (.exit id) r h
  | .label _ => fun r h k => k .normal r h
  | .ret => fun r h k => k .ret r h
  | _ => fun _ _ _ => false

def argsK : List AV → Nat → Regs → (Regs → Bool) → Bool
  | [], _, r, k => k r
  | v :: vs, i, r, k => T.setK deepest r i (some v) fun r => natK (Nat.succ i) fun i => argsK vs i r k

def resK (E : Env) (r : Regs) (h : H) : List ResultVar → (List AV → Bool) → Bool
  | [], k => k []
  | .tmp t :: rs, k => opnd r (.tmp t) fun v => resK E r h rs fun vs => k (v :: vs)
  | .cell a t :: rs, k => opnd r (.tmp a) fun a => loadK E h t a fun v => resK E r h rs fun vs => k (v :: vs)

def oneOf (vs : List AV) (k : AV → Bool) : Bool :=
  match vs with
  | [v] => k v
  | vs => k (.tuple vs)

def callK (E : Env) : Nat → CallT
  | 0 => fun _ _ _ _ => false
  | n + 1 => fun f args h k =>
    match E.fn.get f with
    | some fn => match fn.body with
      | some c => lenK args 0 fun na => match Nat.ble na fn.ntmps with
        | true => argsK args 0 .leaf fun r => codeK E fn.ntmps (callK E n) c r h fun e r h =>
          match e with
          | .exit _ => false
          | .normal => resK E r h fn.results.toList fun vs => oneOf vs fun v => k v h
          | .ret => resK E r h fn.results.toList fun vs => oneOf vs fun v => k v h
        | false => false
      | none => match E.ext.get f with
        | some .noEscape => match args with
          | [v] => k v h
          | _ => false
        | none => false
    | none => false

end Go.Proofs.YtnjobinioalipaaGreatDoor.Ev
