import Derived.Calls
/-
  The abstract machine: abstract values, objects, instructions, code, and what a piece of code comes to (predicates), independent of any program.
-/
namespace Go.Fw

/-- Abstract values. `cptr x`: a pointer to a variable that holds x and is never written again. `ptr`, `own`, `mp`: references to objects (key, generation). -/
inductive AV where
  | v (x : Value)
  | agg (ss : List Nat) (fs : List AV)
  | sl (k : Nat) (xs : List AV)
  | tup (vs : List AV)
  | fn (f : Nat) (caps : List AV)
  | cptr (x : AV)
  | ptr (p g : Nat) (path : List Nat) (off : Nat)
  | own (p g k off len : Nat)
  | mp (p g : Nat)
  /-- The yield of a loop object. -/
  | yl (p g : Nat)
  | nil
  | e0
  | und
  deriving Inhabited

abbrev AV.i (n : Int) : AV := .v (.int .i64 n)
abbrev AV.b (b : Bool) : AV := .v (.bool b)
abbrev AV.str (s : ByteArray) : AV := .v (.string s)

/-- Objects: an array behind an owned slice, a variable, a map with string keys, a strings.Builder. -/
inductive AObj where
  | arr (k : Nat) (xs : List AV)
  | bx (x : AV)
  | map (es : List (ByteArray × AV))
  | bld (s : ByteArray)
  /-- A range over a function: the function of its rounds, its captured values; left by which jump? -/
  | lp (f : Nat) (caps : List AV) (s : Option Nat)
  deriving Inhabited

def sumN : List Nat → Nat
  | [] => 0
  | n :: r => n + sumN r
/-- The cells ahead of part i. -/
def offN : List Nat → Nat → Nat
  | _, 0 => 0
  | [], _ + 1 => 0
  | n :: r, i + 1 => n + offN r i
/-- The number of cells. -/
def AV.size : AV → Nat
  | .agg ss _ => sumN ss
  | .tup _ | .und => 0
  | _ => 1

def AV.isAgg : AV → Bool
  | .agg .. => true
  | _ => false

mutual
/-- No reference to an object. -/
def AV.pureB : AV → Bool
  | .v _ => true
  | .agg _ fs => AV.pureBs fs
  | .sl _ xs => AV.pureBs xs
  | .tup vs => AV.pureBs vs
  | .fn _ caps => AV.pureBs caps
  | .cptr x => x.pureB
  | .nil | .e0 => true
  | _ => false
def AV.pureBs : List AV → Bool
  | [] => true
  | f :: fs => f.pureB && AV.pureBs fs
end

abbrev Env := List (Nat × AV)
abbrev Ob := List (Nat × Nat × AObj)

def lk {β : Type} : List (Nat × β) → Nat → Option β
  | [], _ => none
  | (m, b) :: r, n => if n = m then some b else lk r n

/-- Replaced where it stands, or put at the end. -/
def up {β : Type} : List (Nat × β) → Nat → β → List (Nat × β)
  | [], n, b => [(n, b)]
  | (m, c) :: r, n, b => if n = m then (n, b) :: r else (m, c) :: up r n b

def rm {β : Type} : List (Nat × β) → Nat → List (Nat × β)
  | [], _ => []
  | (m, c) :: r, n => if n = m then rm r n else (m, c) :: rm r n

structure St where
  env : Env
  ob : Ob
  tk : Nat

def rmAll {β : Type} : List (Nat × β) → List Nat → List (Nat × β)
  | l, [] => l
  | l, p :: r => rmAll (rm l p) r

def memN (n : Nat) : List Nat → Bool
  | [] => false
  | m :: r => if n = m then true else memN n r

/-- What stands under these keys. -/
def kp {β : Type} : List (Nat × β) → List Nat → List (Nat × β)
  | [], _ => []
  | (m, c) :: r, l => if memN m l then (m, c) :: kp r l else kp r l

/-- Writes to objects. -/
inductive Wr where
  | o (p g : Nat) (x : AObj)
  | del (p : Nat)

def Wr.key : Wr → Nat
  | .o p _ _ | .del p => p

def wrO (ob : Ob) : Wr → Ob
  | .o p g x => up ob p (g, x)
  | .del p => rm ob p

def wrsO (ob : Ob) : List Wr → Ob
  | [] => ob
  | x :: r => wrsO (wrO ob x) r

/-- A store into a slot. -/
def putE (env : Env) : Option Nat → AV → Env
  | none, _ => env
  | some n, a => up env n a

/-- Computations that read objects. -/
inductive MO (α : Type) : Type where
  | ret (a : α)
  | get (p g : Nat) (k : AObj → MO α)
  | abs (p : Nat) (k : MO α)
  | fail

def MO.run {α : Type} (ob : Ob) : MO α → Option α
  | .ret a => some a
  | .get p g k => match lk ob p with
    | some (g', o) => if g = g' then (k o).run ob else none
    | none => none
  | .abs p k => match lk ob p with
    | some _ => none
    | none => k.run ob
  | .fail => none

/-- The keys that are looked at. -/
def MO.seen {α : Type} (ob : Ob) : MO α → List Nat
  | .ret _ => []
  | .get p g k => match lk ob p with
    | some (g', o) => if g = g' then p :: (k o).seen ob else [p]
    | none => [p]
  | .abs p k => p :: k.seen ob
  | .fail => []

def opt {α β : Type} (o : Option α) (k : α → MO β) : MO β :=
  match o with
  | some a => k a
  | none => .fail

@[simp] theorem opt_some {α β : Type} (a : α) (k : α → MO β) : opt (some a) k = k a := rfl
@[simp] theorem opt_none {α β : Type} (k : α → MO β) : opt none k = .fail := rfl

/-- A value of a type with n cells (ag: a struct or an array). -/
def AV.fits (a : AV) (n : Nat) (ag : Bool) : Bool := decide (a.size = n) && (a.isAgg == ag)

/-- Operands. -/
inductive X where
  | s (n : Nat)
  | c (a : AV)

def X.ev (env : Env) : X → Option AV
  | .s n => lk env n
  | .c a => some a

/-- Operations that hand on. -/
inductive MV where
  | mv (x : X)
  | pick (c a b : X)
  | boxC (x : X)
  | mkfn (f : Nat) (caps : List X)

/-- How values of a type are compared: whole numbers, bools, strings, pointers with nil, slices with nil, functions with nil, structs. -/
inductive EqSh where
  | int | bool | str | ptr | slc | fnc
  | st (ss : List Nat) (fs : List EqSh)
  deriving Inhabited

/-- Operations that look at no object. -/
inductive PO where
  | build (ss : List Nat) (z : List AV) (parts : List (Nat × X))
  | bsl (k n : Nat) (z : AV) (parts : List (Nat × X))
  | bin (op : BinOp) (x y : X)
  | eqt (e : EqSh) (neg : Bool) (x y : X)
  | un (op : UnOp) (x : X)
  | conv (k : IntKind) (x : X)
  | faddr (ss : List Nat) (i : Nat) (x : X)
  | fld (ss : List Nat) (i : Nat) (ag : Bool) (x : X)
  | iaddr (k : Nat) (x i : X)
  | idx (x i : X)
  | slc (k : Nat) (x : X) (lo hi : Option X)
  | len (str : Bool) (x : X)
  | mm (mx : Bool) (x : X) (ys : List X)
  | extr (x : X) (i : Nat)
  | nilchk (x : X)

/-- Operations that read objects. -/
inductive RO where
  | load (n : Nat) (ag : Bool) (x : X)
  | clone (k lim : Nat) (x y : X)
  | lookup (x key : X) (dflt : AV) (ok : Bool)
  | mlen (x : X)

/-- Operations that write objects. -/
inductive WO where
  | alloc (p : Nat) (z : AV)
  | boxO (p : Nat) (x : X)
  | bslO (p k n : Nat) (z : AV) (parts : List (Nat × X))
  | store (n : Nat) (x y : X)
  | app (p k lim : Nat) (x y : X)
  | cloneO (p k lim : Nat) (x y : X)
  | newnil (p k : Nat)
  | mkslice (p k lim : Nat) (z : AV) (n : X)
  | mkmap (p : Nat)
  | mapupd (x key y : X)

/-- Keys of objects that are made in the course of a run, beside the fixed ones. -/
def dyn (g : Nat) : Nat := 1000000 + g
/-- The key 0 stands for a key of its own each time. -/
def keyOf (p g : Nat) : Nat := if p = 0 then dyn g else p

def mapX (ev : X → Option AV) : List X → Option (List AV)
  | [] => some []
  | x :: r => match ev x, mapX ev r with
    | some a, some as => some (a :: as)
    | _, _ => none

def evParts (ev : X → Option AV) : List (Nat × X) → Option (List (Nat × AV))
  | [] => some []
  | (i, x) :: r => match ev x, evParts ev r with
    | some a, some as => some ((i, a) :: as)
    | _, _ => none

def fillV : List AV → List (Nat × AV) → Option (List AV)
  | z, [] => some z
  | z, (i, a) :: r => match z[i]? with
    | some old => if a.size = old.size then fillV (z.set i a) r else none
    | none => none

def eqInt : AV → AV → Option Bool
  | .v (.int j a), .v (.int k b) => if j = k then some (a == b) else none
  | _, _ => none
def eqBool : AV → AV → Option Bool
  | .v (.bool a), .v (.bool b) => some (a == b)
  | _, _ => none
def eqStr : AV → AV → Option Bool
  | .v (.string a), .v (.string b) => some (decide (a = b))
  | _, _ => none
/-- Pointers, one of them nil. -/
def eqPtr : AV → AV → Option Bool
  | .v (.pointer none), .v (.pointer none) => some true
  | .ptr .., .v (.pointer none) | .v (.pointer none), .ptr .. => some false
  | .cptr _, .v (.pointer none) | .v (.pointer none), .cptr _ => some false
  | _, _ => none
/-- A slice with nil. -/
def eqSlc : AV → AV → Option Bool
  | .nil, .nil => some true
  | .own _ _ _ _ n, .nil => if n = 0 then none else some false
  | .sl _ xs, .nil => if xs.length = 0 then none else some false
  | .e0, .nil => some false
  | _, _ => none
def eqFnc : AV → AV → Option Bool
  | .v .nilFunc, .v .nilFunc => some true
  | .fn .., .v .nilFunc | .v .nilFunc, .fn .. => some false
  | _, _ => none
mutual
def eqS : EqSh → AV → AV → Option Bool
  | .int, a, b => eqInt a b
  | .bool, a, b => eqBool a b
  | .str, a, b => eqStr a b
  | .ptr, a, b => eqPtr a b
  | .slc, a, b => eqSlc a b
  | .fnc, a, b => eqFnc a b
  | .st ss es, a, b => match a, b with
    | .agg ss1 xs, .agg ss2 ys => if ss1 = ss ∧ ss2 = ss then eqSs es xs ys else none
    | _, _ => none
def eqSs : List EqSh → List AV → List AV → Option Bool
  | [], [], [] => some true
  | e :: es, x :: xs, y :: ys => match eqS e x y, eqSs es xs ys with
    | some a, some b => some (a && b)
    | _, _ => none
  | _, _, _ => none
end
def eqtV (e : EqSh) (neg : Bool) (a b : AV) : Option AV := (eqS e a b).map fun t => .b (if neg then !t else t)

def abin (op : BinOp) (a b : AV) : Option AV :=
  match a, b with
    | .v (.int k x), .v (.int k' y) =>
      match op with
      | .shl => if 0 ≤ y ∧ y < k.bits then some (.v (.int k (k.wrap (x * 2 ^ y.toNat)))) else none
      | .shr => if 0 ≤ y ∧ y < k.bits then some (.v (.int k (x.fdiv (2 ^ y.toNat)))) else none
      | _ => if k = k' then
          match op with
          | .add => some (.v (.int k (k.wrap (x + y))))
          | .sub => some (.v (.int k (k.wrap (x - y))))
          | .mul => some (.v (.int k (k.wrap (x * y))))
          | .quo => if y = 0 then none else some (.v (.int k (k.wrap (x.tdiv y))))
          | .rem => if y = 0 then none else some (.v (.int k (x.tmod y)))
          | .and => some (.v (.int k (k.wrap (BitVec.ofInt k.bits x &&& BitVec.ofInt k.bits y).toNat)))
          | .or => some (.v (.int k (k.wrap (BitVec.ofInt k.bits x ||| BitVec.ofInt k.bits y).toNat)))
          | .xor => some (.v (.int k (k.wrap (BitVec.ofInt k.bits x ^^^ BitVec.ofInt k.bits y).toNat)))
          | .lss => some (.b (decide (x < y)))
          | .leq => some (.b (decide (x ≤ y)))
          | .gtr => some (.b (decide (x > y)))
          | .geq => some (.b (decide (x ≥ y)))
          | .eql => some (.b (x == y))
          | .neq => some (.b (x != y))
          | _ => none
        else none
    | .v (.string x), .v (.string y) =>
      match op with
      | .add => if x.size + y.size ≤ 9223372036854775807 then some (.str (x ++ y)) else none
      | .eql => some (.b (decide (x = y)))
      | .neq => some (.b (!decide (x = y)))
      | .lss => some (.b (Op.bytesLess x.data.toList y.data.toList))
      | .gtr => some (.b (!(Op.bytesLess x.data.toList y.data.toList || decide (x = y))))
      | _ => none
    | _, _ => none

def aun (op : UnOp) (a : AV) : Option AV :=
  match op, a with
  | .not, .v (.bool b) => some (.b (!b))
  | .neg, .v (.int k n) => some (.v (.int k (k.wrap (0 - n))))
  | _, _ => none

def AV.asI : AV → Option Int
  | .v (.int _ n) => some n
  | _ => none

/-- An index in range. -/
def AV.ix (a : AV) (n : Nat) : Option Nat :=
  match a with
  | .v (.int _ i) => if 0 ≤ i ∧ i < n then some i.toNat else none
  | _ => none

/-- A bound of a slice: at most n. -/
def AV.bd (a : AV) (n : Nat) : Option Nat :=
  match a with
  | .v (.int _ i) => if 0 ≤ i ∧ i ≤ n then some i.toNat else none
  | _ => none

/-- What lies at a path, and the cells ahead of it. -/
def AV.at (a : AV) : List Nat → Nat → Option (Nat × AV)
  | [], n => some (n, a)
  | i :: r, n => match a with
    | .agg ss fs => match fs[i]? with
      | some x => x.at r (n + offN ss i)
      | none => none
    | _ => none

def AV.setAt (a : AV) : List Nat → Nat → AV → Option (Nat × AV)
  | [], n, y => if y.size = a.size then some (n, y) else none
  | i :: r, n, y => match a with
    | .agg ss fs => match fs[i]? with
      | some x => match x.setAt r (n + offN ss i) y with
        | some p => some (p.1, .agg ss (fs.set i p.2))
        | none => none
      | none => none
    | _ => none

def AObj.at : AObj → List Nat → Option (Nat × AV)
  | .bx x, path => x.at path 0
  | .arr k xs, i :: r => match xs[i]? with
    | some x => x.at r (i * k)
    | none => none
  | _, _ => none

def AObj.setAt : AObj → List Nat → AV → Option (Nat × AObj)
  | .bx x, path, y => (x.setAt path 0 y).map fun p => (p.1, .bx p.2)
  | .arr k xs, i :: r, y => match xs[i]? with
    | some x => (x.setAt r (i * k) y).map fun p => (p.1, .arr k (xs.set i p.2))
    | none => none
  | _, _, _ => none

/-- The elements of a slice, of cells k each. -/
def AV.elems (k : Nat) : AV → MO (List AV)
  | .nil | .e0 => .ret []
  | .sl k' xs => if k' = k then .ret xs else if xs.length = 0 then .ret [] else .fail
  | .own p g j off n => .get p g fun o => match o with
    | .arr k' xs => if k' = k ∧ j = k ∧ off + n ≤ xs.length then .ret ((xs.drop off).take n) else .fail
    | _ => .fail
  | _ => .fail

/-- The elements of what is appended: a slice's, or a string's bytes. -/
def AV.appElems (k : Nat) : AV → MO (List AV)
  | .v (.string s) => if k = 1 then .ret (s.data.toList.map fun c => .v (.int .u8 c.toNat)) else .fail
  | a => a.elems k

def MO.bind {α β : Type} : MO α → (α → MO β) → MO β
  | .ret a, f => f a
  | .get p g k, f => .get p g fun o => (k o).bind f
  | .abs p k, f => .abs p (k.bind f)
  | .fail, _ => .fail

def lkMap (es : List (ByteArray × AV)) (k : ByteArray) : Option AV :=
  match es with
  | [] => none
  | (k', v) :: r => if k = k' then some v else lkMap r k

def upMap : List (ByteArray × AV) → ByteArray → AV → List (ByteArray × AV)
  | [], k, v => [(k, v)]
  | (k', v') :: r, k, v => if k = k' then (k', v) :: r else (k', v') :: upMap r k v

def mmFold (mx : Bool) : AV → List AV → Option AV
  | a, [] => some a
  | .v (.int k x), .v (.int k' y) :: r => if k = k' then mmFold mx (.v (.int k (if mx then (if y > x then y else x) else (if y < x then y else x)))) r else none
  | _, _ => none

/-! ### The operations on values -/

def pickV (c : AV) (a b : Option AV) : Option AV :=
  match c with
  | .v (.bool t) => if t = true then a else b
  | _ => none
def buildV (ss : List Nat) (z : List AV) (ps : List (Nat × AV)) : Option AV := (fillV z ps).map (.agg ss)
def bslV (k n : Nat) (z : AV) (ps : List (Nat × AV)) : Option AV := if n = 0 then some .e0 else (fillV (List.replicate n z) ps).map (.sl k)
def convV (k : IntKind) (a : AV) : Option AV :=
  match a with
  | .v (.int _ n) => some (.v (.int k (k.wrap n)))
  | _ => none
def faddrV (ss : List Nat) (i : Nat) (a : AV) : Option AV :=
  match a with
  | .cptr (.agg ss' fs) => if ss' = ss then fs[i]?.map .cptr else none
  | .ptr p g path off => some (.ptr p g (path ++ [i]) (off + offN ss i))
  | _ => none
def fldV (ss : List Nat) (i : Nat) (ag : Bool) (a : AV) : Option AV :=
  match a with
  | .agg ss' fs => if ss' = ss then fs[i]?.bind fun b => if b.isAgg = ag then some b else none else none
  | _ => none
def iaddrV (k : Nat) (a j : AV) : Option AV :=
  match a with
  | .sl k' xs => if k' = k then (j.ix xs.length).bind fun n => xs[n]?.map .cptr else none
  | .own p g k' off m => if k' = k then (j.ix m).map fun n => .ptr p g [off + n] ((off + n) * k) else none
  | _ => none
def idxV (a j : AV) : Option AV :=
  match a with
  | .v (.string s) => (j.ix s.size).bind fun n => s.data.toList[n]?.map fun c => .v (.int .u8 c.toNat)
  | _ => none
def lenN (a : AV) : Option Nat :=
  match a with
  | .sl _ xs => some xs.length
  | .own _ _ _ _ m => some m
  | .v (.string s) => some s.size
  | .nil | .e0 => some 0
  | _ => none
/-- k: the cells of an element; 0: a string. -/
def slcV (k : Nat) (a : AV) (lo hi : Option AV) : Option AV :=
  (lenN a).bind fun n =>
  (match hi with | none => some n | some b => b.bd n).bind fun h =>
  (match lo with | none => some 0 | some b => b.bd h).bind fun l =>
  match a with
    | .sl k' xs => if k' = k ∧ k ≠ 0 then some (.sl k ((xs.take h).drop l)) else none
    | .own p g k' off _ => if k' = k ∧ k ≠ 0 then some (.own p g k (off + l) (h - l)) else none
    | .v (.string s) => if k = 0 then some (.str (s.extract l h)) else none
    | .nil | .e0 => if k ≠ 0 then some a else none
    | _ => none
def AV.isStr : AV → Bool
  | .v _ => true
  | _ => false
def lenV (str : Bool) (a : AV) : Option AV := (lenN a).bind fun n => if a.isStr = str then some (.i n) else none
def extrV (a : AV) (i : Nat) : Option AV :=
  match a with
  | .tup vs => vs[i]?
  | _ => none
def nilchkV (a : AV) : Option AV :=
  match a with
  | .ptr .. | .cptr _ | .fn .. => some a
  | _ => none

/-! A definition of great height: the kernel opens what names it first. -/
def h0 : Nat := 0
def h1 : Nat := h0
def h2 : Nat := h1
def h3 : Nat := h2
def h4 : Nat := h3
def h5 : Nat := h4
def h6 : Nat := h5
def h7 : Nat := h6
def h8 : Nat := h7
def h9 : Nat := h8
def h10 : Nat := h9
def h11 : Nat := h10
def h12 : Nat := h11
def h13 : Nat := h12
def h14 : Nat := h13
def h15 : Nat := h14
def h16 : Nat := h15
def h17 : Nat := h16
def h18 : Nat := h17
def h19 : Nat := h18
def tall {α : Sort _} (a : α) : α := (fun (_ : Nat) => a) h19

def opt1 (o : Option AV) (k : AV → Option AV) : Option AV :=
  match o with
  | some a => k a
  | none => tall none
def opt2 (o o' : Option AV) (k : AV → AV → Option AV) : Option AV :=
  match o with
  | some a => match o' with
    | some b => k a b
    | none => none
  | none => tall none

def optP {α β : Type} (o : Option α) (k : α → Option β) : Option β :=
  match o with
  | some a => k a
  | none => tall none

def MV.sem (ev : X → Option AV) : MV → Option AV
  | .mv x => ev x
  | .pick c a b => opt1 (ev c) fun c => pickV c (ev a) (ev b)
  | .boxC x => opt1 (ev x) fun a => some (.cptr a)
  | .mkfn f caps => optP (mapX ev caps) fun cs => some (.fn f cs)

def PO.sem (ev : X → Option AV) : PO → Option AV
  | .build ss z parts => optP (evParts ev parts) fun ps => buildV ss z ps
  | .bsl k n z parts => optP (evParts ev parts) fun ps => bslV k n z ps
  | .bin op x y => opt2 (ev x) (ev y) (abin op)
  | .eqt e neg x y => opt2 (ev x) (ev y) (eqtV e neg)
  | .un op x => opt1 (ev x) (aun op)
  | .conv k x => opt1 (ev x) (convV k)
  | .faddr ss i x => opt1 (ev x) (faddrV ss i)
  | .fld ss i ag x => opt1 (ev x) (fldV ss i ag)
  | .iaddr k x i => opt2 (ev x) (ev i) (iaddrV k)
  | .idx x i => opt2 (ev x) (ev i) idxV
  | .slc k x lo hi => opt1 (ev x) fun a => match lo with
    | none => match hi with
      | none => slcV k a none none
      | some h => opt1 (ev h) fun b => slcV k a none (some b)
    | some l => opt1 (ev l) fun c => match hi with
      | none => slcV k a (some c) none
      | some h => opt1 (ev h) fun b => slcV k a (some c) (some b)
  | .len str x => opt1 (ev x) (lenV str)
  | .mm mx x ys => opt1 (ev x) fun a => optP (mapX ev ys) fun bs => mmFold mx a bs
  | .extr x i => opt1 (ev x) fun a => extrV a i
  | .nilchk x => opt1 (ev x) nilchkV

def loadV (n : Nat) (ag : Bool) (a : AV) : MO AV :=
  match a with
  | .cptr y => if y.fits n ag = true then .ret y else .fail
  | .ptr p g path off => .get p g fun o => opt (o.at path) fun q => if q.1 = off ∧ q.2.fits n ag = true then .ret q.2 else .fail
  | _ => .fail
def cloneV (k lim : Nat) (a b : AV) : MO AV :=
  match a with
  | .nil | .e0 => (b.appElems k).bind fun ys => if ys.length ≤ lim then .ret (.sl k ys) else .fail
  | _ => .fail
def lookupV (a b d : AV) (ok : Bool) : MO AV :=
  match a, b with
  | .mp p g, .v (.string s) => .get p g fun o => match o with
    | .map es => .ret (match lkMap es s with
      | some y => if ok then .tup [y, .b true] else y
      | none => if ok then .tup [d, .b false] else d)
    | _ => .fail
  | _, _ => .fail
def mlenV (a : AV) : MO AV :=
  match a with
  | .mp p g => .get p g fun o => match o with
    | .map es => .ret (.i es.length)
    | _ => .fail
  | _ => .fail

def optM {β : Type} (o : Option AV) (k : AV → MO β) : MO β :=
  match o with
  | some a => k a
  | none => tall .fail

def optN {α β : Type} (o : Option α) (k : α → MO β) : MO β :=
  match o with
  | some a => k a
  | none => tall .fail

def RO.sem (ev : X → Option AV) : RO → MO AV
  | .load n ag x => optM (ev x) (loadV n ag)
  | .clone k lim x y => optM (ev x) fun a => optM (ev y) fun b => cloneV k lim a b
  | .lookup x key d ok => optM (ev x) fun a => optM (ev key) fun b => lookupV a b d ok
  | .mlen x => optM (ev x) mlenV

/-- A new object. -/
def newV (p g : Nat) (r : AV) (x : AObj) : MO (AV × List Wr) := .abs p (.ret (r, [.o p g x]))
def storeV (n : Nat) (a b : AV) : MO (AV × List Wr) :=
  match a with
  | .ptr p g path off => if b.size = n then .get p g fun o => opt (o.setAt path b) fun q => if q.1 = off then .ret (.und, [.o p g q.2]) else .fail else .fail
  | _ => .fail
def appV (p k lim g : Nat) (a b : AV) : MO (AV × List Wr) :=
  (b.appElems k).bind fun ys => match a with
    | .own q g' k1 off n => .get q g' fun o => match o with
      | .arr k' xs => if off = 0 ∧ k' = k ∧ k1 = k ∧ n ≤ xs.length ∧ n + ys.length ≤ lim then .ret (.own q g k 0 (n + ys.length), [.o q g (.arr k (xs.take n ++ ys))]) else .fail
      | _ => .fail
    | .nil | .e0 => if ys.length ≤ lim then newV (keyOf p g) g (.own (keyOf p g) g k 0 ys.length) (.arr k ys) else .fail
    | _ => .fail
def cloneOV (p k lim g : Nat) (a b : AV) : MO (AV × List Wr) :=
  match a with
  | .nil | .e0 => (b.appElems k).bind fun ys => if ys.length ≤ lim then newV (keyOf p g) g (.own (keyOf p g) g k 0 ys.length) (.arr k ys) else .fail
  | _ => .fail
def mksliceV (p k lim g : Nat) (z n : AV) : MO (AV × List Wr) :=
  match n with
  | .v (.int _ m) => if 0 ≤ m ∧ m ≤ lim ∧ z.size = k then newV (keyOf p g) g (.own (keyOf p g) g k 0 m.toNat) (.arr k (List.replicate m.toNat z)) else .fail
  | _ => .fail
def mapupdV (a b c : AV) : MO (AV × List Wr) :=
  match a, b with
  | .mp p g, .v (.string s) => .get p g fun o => match o with
    | .map es => .ret (.und, [.o p g (.map (upMap es s c))])
    | _ => .fail
  | _, _ => .fail
def bslOV (p k n g : Nat) (z : AV) (ps : List (Nat × AV)) : MO (AV × List Wr) :=
  opt (fillV (List.replicate n z) ps) fun xs => newV (keyOf p g) g (.own (keyOf p g) g k 0 n) (.arr k xs)

def WO.sem (ev : X → Option AV) (g : Nat) : WO → MO (AV × List Wr)
  | .alloc p z => newV (keyOf p g) g (.ptr (keyOf p g) g [] 0) (.bx z)
  | .boxO p x => optM (ev x) fun a => newV (keyOf p g) g (.ptr (keyOf p g) g [] 0) (.bx a)
  | .bslO p k n z parts => optN (evParts ev parts) fun ps => bslOV p k n g z ps
  | .store n x y => optM (ev x) fun a => optM (ev y) fun b => storeV n a b
  | .app p k lim x y => optM (ev x) fun a => optM (ev y) fun b => appV p k lim g a b
  | .cloneO p k lim x y => optM (ev x) fun a => optM (ev y) fun b => cloneOV p k lim g a b
  | .newnil p k => newV (keyOf p g) g (.own (keyOf p g) g k 0 0) (.arr k [])
  | .mkslice p k lim z n => optM (ev n) fun a => mksliceV p k lim g z a
  | .mkmap p => newV (keyOf p g) g (.mp (keyOf p g) g) (.map [])
  | .mapupd x key y => optM (ev x) fun a => optM (ev key) fun b => optM (ev y) fun c => mapupdV a b c

/-- The only store into a variable: what it holds from now on. -/
def finV (n : Nat) (a b : AV) : MO (AV × List Wr) :=
  match a with
  | .ptr p g [] off => .get p g fun o => match o with
    | .bx x => if off = 0 ∧ b.size = n ∧ b.size = x.size then .ret (.cptr b, [.del p]) else .fail
    | _ => .fail
  | _ => .fail

/-! ### Instructions, code, functions -/

/-- How an argument goes over: as it is, or an owned slice with its array (the caller's is gone). -/
inductive AMode where
  | pass
  | take
/-- How a result is held: frozen (the cells of an element, for each result that may be nil), or a fresh slice as an object with this key and these cells of an element. -/
inductive RMode where
  | frz (ks : List Nat)
  | own (p k : Nat)

inductive ACall where
  | fn (f : Nat)
  | val (x : X)

inductive Ins where
  | m (dst : Option Nat) (gd : Option (Nat × Bool)) (o : MV)
  | p (dst : Option Nat) (gd : Option (Nat × Bool)) (o : PO)
  | r (dst : Option Nat) (gd : Option (Nat × Bool)) (o : RO)
  | w (dst : Option Nat) (gd : Option (Nat × Bool)) (o : WO)
  /-- The only store into the variable whose address a slot holds. -/
  | fin (gd : Option (Nat × Bool)) (n s : Nat) (y : X)
  /-- A call whose objects are its own. -/
  | call (dst : Option Nat) (gd : Option (Nat × Bool)) (f : ACall) (args : List (X × AMode)) (res : RMode)
  /-- A call that shares the objects. -/
  | calli (dst : Option Nat) (gd : Option (Nat × Bool)) (f : ACall) (args : List X)
  /-- A call of yield. -/
  | cally (dst : Option Nat) (gd : Option (Nat × Bool)) (x : X) (args : List X)

def Ins.gd : Ins → Option (Nat × Bool)
  | .m _ g _ | .p _ g _ | .r _ g _ | .w _ g _ | .fin g _ _ _ | .call _ g _ _ _ | .calli _ g _ _ | .cally _ g _ _ => g
def Ins.dst : Ins → Option Nat
  | .m d _ _ | .p d _ _ | .r d _ _ | .w d _ _ | .call d _ _ _ _ | .calli d _ _ _ | .cally d _ _ _ => d
  | .fin _ _ _ _ => none
/-- Does it want a generation of its own? -/
def Ins.gen : Ins → Bool
  | .w _ _ _ | .call _ _ _ _ (.own _ _) => true
  | _ => false
def anyGen : List Ins → Bool
  | [] => false
  | i :: r => match i.gen with
    | true => true
    | false => anyGen r
/-- The count of generations behind a region. -/
def nextTk (tk : Nat) (is : List Ins) : Nat := match anyGen is with
  | true => tk + is.length
  | false => tk

theorem le_nextTk (tk : Nat) (is : List Ins) : tk ≤ nextTk tk is := by
  unfold nextTk
  split
  · exact Nat.le_add_right _ _
  · exact Nat.le_refl _

inductive ACode where
  | skip
  | seq (a b : ACode)
  | reg (is : List Ins) (un : List (Nat × Nat))
  | cond (x : X) (a b : ACode)
  | blk (id : Nat) (c : ACode)
  | loop (c : ACode)
  | exit (id : Nat)
  | ret
  /-- What follows needs these slots alone, and no more these objects. -/
  | keep (ss ps : List Nat)
  /-- The owned slice in a slot is frozen. -/
  | frz (s : Nat)
  /-- Code that is never come to. -/
  | stop
  /-- A piece with a name. -/
  | sub (c : ACode)
  /-- A range over a function: the iterator, the loop object's key, the function of its rounds, what it captures. -/
  | rng (x : X) (J f : Nat) (slots : List Nat)
  /-- A round: its slots, the assignment, the body. -/
  | rnd (ss : List Nat) (a c : ACode)

inductive Ex where
  | nrm
  | ret
  | exit (id : Nat)

inductive RV where
  | tmp (s : Nat)
  | cell (s : Nat) (n : Nat) (ag : Bool)

/-- np: how many arguments (captured ones included); rs: the results. -/
structure AFun where
  np : Nat
  rs : List RV
  body : ACode

def resL (f : AV → Option AV) : List AV → Option (List AV)
  | [] => some []
  | a :: r => match f a, resL f r with
    | some x, some xs => some (x :: xs)
    | _, _ => none
/-- One level. -/
def resS (ob : Ob) (f : AV → Option AV) (a : AV) : Option AV :=
  match a with
  | .own p g k' off n => match lk ob p with
    | some (g', .arr k xs) => if g = g' ∧ k' = k ∧ off + n ≤ xs.length then (resL f ((xs.drop off).take n)).map (.sl k) else none
    | _ => none
  | .agg ss fs => (resL f fs).map (.agg ss)
  | .sl k xs => (resL f xs).map (.sl k)
  | .tup vs => (resL f vs).map .tup
  | _ => none
/-- References resolved: an owned slice becomes a frozen one (to the depth d). -/
def AV.res (ob : Ob) : Nat → AV → Option AV
  | 0, a => if a.pureB then some a else none
  | d + 1, a => if a.pureB then some a else resS ob (AV.res ob d) a
def AV.res' (ob : Ob) (d : Nat) (a : AV) : Option AV :=
  match d with
  | 0 => none
  | d + 1 => resS ob (AV.res ob d) a
def AV.ress (ob : Ob) (d : Nat) (l : List AV) : Option (List AV) := resL (AV.res ob d) l
theorem AV.res_eq (ob : Ob) (d : Nat) (a : AV) : AV.res ob d a = if a.pureB then some a else AV.res' ob d a := by
  cases d <;> rfl
theorem AV.res_succ (ob : Ob) (d : Nat) (a : AV) : AV.res' ob (d + 1) a = (match a with
    | .own p g k' off n => match lk ob p with
      | some (g', .arr k xs) => if g = g' ∧ k' = k ∧ off + n ≤ xs.length then (AV.ress ob d ((xs.drop off).take n)).map (.sl k) else none
      | _ => none
    | .agg ss fs => (AV.ress ob d fs).map (.agg ss)
    | .sl k xs => (AV.ress ob d xs).map (.sl k)
    | .tup vs => (AV.ress ob d vs).map .tup
    | _ => none) := rfl
theorem AV.ress_nil (ob : Ob) (d : Nat) : AV.ress ob d [] = some [] := rfl
theorem AV.ress_cons (ob : Ob) (d : Nat) (a : AV) (r : List AV) : AV.ress ob d (a :: r) = (match AV.res ob d a, AV.ress ob d r with
    | some x, some xs => some (x :: xs)
    | _, _ => none) := rfl

/-- nil as a slice without elements. -/
def AV.norm (k : Nat) : AV → AV
  | .nil | .e0 => .sl k []
  | a => a

def normAll : List Nat → List AV → List AV
  | k :: ks, a :: as => a.norm k :: normAll ks as
  | _, as => as

/-- A result, frozen. -/
def frozen (ob : Ob) (ks : List Nat) (a : AV) : Option AV :=
  match a with
  | .tup vs => (AV.ress ob 5 (normAll ks vs)).map .tup
  | a => AV.res ob 5 (a.norm (ks.headD 0))

/-- A result that is a slice of which nothing else is known. -/
def fresh (ob : Ob) (k : Nat) (a : AV) : Option (List AV) :=
  match a with
  | .nil | .e0 => some []
  | .own p g k1 0 n => match lk ob p with
    | some (g', .arr k' xs) => if g = g' ∧ k = k' ∧ k1 = k ∧ n ≤ xs.length then AV.ress (rm ob p) 4 (xs.take n) else none
    | _ => none
  | _ => none

/-- Jobs that a piece of code waits for. -/
inductive Job where
  | call (f : Nat) (args : List AV) (ob : Ob) (tk : Nat) (R : AV → Ob → Nat → Prop)
  | loop (c : ACode) (st : St) (Q : Ex → St → Prop)

/-- What a library function comes to. -/
abbrev Ext := List AV → Ob → Nat → (AV → Ob → Nat → Prop) → Prop

inductive ADef where
  | code (fn : AFun)
  | ext (e : Ext)

def Ins.guardOk (env : Env) (i : Ins) : Option Bool :=
  match i.gd with
  | none => some true
  | some (s, want) => match lk env s with
    | some (.v (.bool b)) => some (b == want)
    | some .und => some false
    | _ => none

def evArgs (env : Env) : List (X × AMode) → Option (List (AV × AMode))
  | [] => some []
  | (x, m) :: r => match x.ev env, evArgs env r with
    | some a, some as => some ((a, m) :: as)
    | _, _ => none

/-- The arguments of a call with objects of its own; the first key for a slice that goes over. -/
def argsV (ob : Ob) : Nat → List (AV × AMode) → Option (List AV × Ob × List Nat)
  | _, [] => some ([], [], [])
  | q, (a, .pass) :: r => match argsV ob (q + 1) r with
    | some (as, ob', ps) => some (a :: as, ob', ps)
    | none => none
  | q, (a, .take) :: r => match a with
    | .own p g k1 0 n => match lk ob p with
      | some (g', .arr k xs) => if g = g' ∧ k1 = k ∧ n ≤ xs.length ∧ AV.pureBs xs = true then
          match argsV ob (q + 1) r with
          | some (as, ob', ps) => if memN p ps = true then none else some (.own q 0 k 0 n :: as, (q, 0, .arr k xs) :: ob', p :: ps)
          | none => none
        else none
      | _ => none
    | _ => none

/-- Arguments of a call with objects of its own: no references, but to what has gone over with them. -/
def argsB (ob : Ob) : Nat → List AV → Bool
  | _, [] => true
  | q, a :: r => (a.pureB || match a with
      | .own p 0 _ 0 _ => p == q && (lk ob q).isSome
      | _ => false) && argsB ob (q + 1) r

def argsOf (env : Env) (ob : Ob) (q : Nat) (args : List (X × AMode)) : Option (List AV × Ob × List Nat) :=
  match evArgs env args with
  | some as => argsV ob q as
  | none => none

def disj (a b : List Nat) : Bool := a.all fun x => b.all fun y => x != y

/-- No clash with what has been done in the region by operations that may stand in the other order. -/
def clashFree (un : List (Nat × Nat)) (acc : List (Nat × List Nat × List Nat)) (j : Nat) (r w : List Nat) : Bool :=
  acc.all fun (i, r', w') => !(un.any fun (a, b) => a == i && b == j) || (disj w' (r ++ w) && disj w r')

def logIf (un : List (Nat × Nat)) (j : Nat) (r w : List Nat) (acc : List (Nat × List Nat × List Nat)) : List (Nat × List Nat × List Nat) :=
  match un with
  | [] => []
  | _ => match r, w with
    | [], [] => acc
    | _, _ => (j, r, w) :: acc

def keysOf : List Wr → List Nat
  | [] => []
  | x :: r => x.key :: keysOf r

/-- What is asked where the order is open. -/
def clash (un : List (Nat × Nat)) (acc : List (Nat × List Nat × List Nat)) (j : Nat) (r w : List Nat) (K : Prop) : Prop :=
  match un with
  | [] => K
  | _ => clashFree un acc j r w = true ∧ K

def fnV (a : AV) : Option (Nat × List AV) :=
  match a with
  | .fn f caps => some (f, caps)
  | _ => none

def ACall.ev (env : Env) : ACall → Option (Nat × List AV)
  | .fn f => some (f, [])
  | .val x => match x.ev env with
    | some a => fnV a
    | none => none

/-- How a round is left. -/
def sOf (c : Int) : Option Nat := if c = 0 then none else some (c.toNat - 1)
def codeEx : Ex → Int
  | .nrm => 0
  | .ret => 1
  | .exit n => (n : Int) + 2
def exJ : Nat → Ex
  | 0 => .ret
  | n + 1 => .exit n
def slotsV (env : Env) : List Nat → Option (List AV)
  | [] => some []
  | s :: r => match lk env s, slotsV env r with
    | some a, some as => some (a :: as)
    | _, _ => none
/-- The values 0, 1, .. under other numbers. -/
def reEnv (env : Env) : List Nat → Nat → Option Env
  | [], _ => some []
  | s :: r, k => match lk env k, reEnv env r (k + 1) with
    | some a, some e => some ((s, a) :: e)
    | _, _ => none
def ylOf : AV → Option (Nat × Nat)
  | .yl p g => some (p, g)
  | _ => none
/-- The loop object, ready. -/
def lpOf (ob : Ob) (p g : Nat) : Option (Nat × List AV) :=
  match lk ob p with
  | some (g', .lp f caps none) => if g = g' then some (f, caps) else none
  | _ => none
def intOf : AV → Option Int
  | .v (.int .i64 c) => if 0 ≤ c then some c else none
  | _ => none
/-- How a range over a function was left. -/
def leftBy (ob : Ob) (J g : Nat) : Option (Option Nat) :=
  match lk ob J with
  | some (g', .lp _ _ s) => if g = g' then some s else none
  | _ => none

/-- What a region comes to, in the order of the text. -/
def wpOps (S : Job → Prop) (un : List (Nat × Nat)) (t0 : Nat) : List Ins → Nat → List (Nat × List Nat × List Nat) → St → (St → Prop) → Prop
  | [], _, _, st, Q => Q st
  | i :: r, j, acc, st, Q =>
    match i.guardOk st.env with
    | none => False
    | some false => wpOps S un t0 r (j + 1) acc { st with env := putE st.env i.dst .und } Q
    | some true => match i with
      | .m dst _ o => match o.sem (X.ev st.env) with
        | none => False
        | some a => wpOps S un t0 r (j + 1) acc { st with env := putE st.env dst a } Q
      | .p dst _ o => match o.sem (X.ev st.env) with
        | none => False
        | some a => wpOps S un t0 r (j + 1) acc { st with env := putE st.env dst a } Q
      | .r dst _ o => match (o.sem (X.ev st.env)).run st.ob with
        | none => False
        | some a => clash un acc j ((o.sem (X.ev st.env)).seen st.ob) []
          (wpOps S un t0 r (j + 1) (logIf un j ((o.sem (X.ev st.env)).seen st.ob) [] acc) { st with env := putE st.env dst a } Q)
      | .w dst _ o => match (o.sem (X.ev st.env) (t0 + j)).run st.ob with
        | none => False
        | some p => clash un acc j ((o.sem (X.ev st.env) (t0 + j)).seen st.ob) (keysOf p.2)
          (wpOps S un t0 r (j + 1) (logIf un j ((o.sem (X.ev st.env) (t0 + j)).seen st.ob) (keysOf p.2) acc) { st with env := putE st.env dst p.1, ob := wrsO st.ob p.2 } Q)
      | .fin _ n s y => match lk st.env s, y.ev st.env with
        | some a, some b => match (finV n a b).run st.ob with
          | none => False
          | some p => clash un acc j ((finV n a b).seen st.ob) (keysOf p.2)
            (wpOps S un t0 r (j + 1) (logIf un j ((finV n a b).seen st.ob) (keysOf p.2) acc) { st with env := up st.env s p.1, ob := wrsO st.ob p.2 } Q)
        | _, _ => False
      | .call dst _ f args (.frz ks) => match f.ev st.env, argsOf st.env st.ob 1 args with
        | some fc, some p => clash un acc j p.2.2 p.2.2
          (argsB p.2.1 1 (p.1 ++ fc.2) = true ∧ ∃ b : AV, S (.call fc.1 (p.1 ++ fc.2) p.2.1 1 fun a ob'' _ => frozen ob'' ks a = some b) ∧
            wpOps S un t0 r (j + 1) (logIf un j p.2.2 p.2.2 acc) { st with env := putE st.env dst b, ob := rmAll st.ob p.2.2 } Q)
        | _, _ => False
      | .call dst _ f args (.own q k) => match f.ev st.env, argsOf st.env st.ob 1 args with
        | some fc, some p =>
          lk (rmAll st.ob p.2.2) (keyOf q (t0 + j)) = none ∧
          clash un acc j p.2.2 (keyOf q (t0 + j) :: p.2.2)
          (argsB p.2.1 1 (p.1 ++ fc.2) = true ∧ ∃ xs : List AV, S (.call fc.1 (p.1 ++ fc.2) p.2.1 1 fun a ob'' _ => fresh ob'' k a = some xs) ∧
            wpOps S un t0 r (j + 1) (logIf un j p.2.2 (keyOf q (t0 + j) :: p.2.2) acc)
              { st with env := putE st.env dst (.own (keyOf q (t0 + j)) (t0 + j) k 0 xs.length), ob := up (rmAll st.ob p.2.2) (keyOf q (t0 + j)) (t0 + j, .arr k xs) } Q)
        | _, _ => False
      | .calli dst _ f args => match f.ev st.env, mapX (X.ev st.env) args with
        | some fc, some as => un = [] ∧
          ∃ q : AV × Ob × Nat, S (.call fc.1 (as ++ fc.2) st.ob st.tk fun a o t => (a, o, t) = q) ∧
            wpOps S un t0 r (j + 1) acc ⟨putE st.env dst q.1, q.2.1, q.2.2⟩ Q
        | _, _ => False
      | .cally dst _ x args => match (x.ev st.env).bind ylOf, mapX (X.ev st.env) args with
        | some y, some as => match lpOf st.ob y.1 y.2 with
          | some fc => un = [] ∧
            ∃ q : AV × Ob × Nat, S (.call fc.1 (as ++ fc.2) (rm st.ob y.1) st.tk fun a o t => (a, o, t) = q) ∧
              match intOf q.1 with
              | some c => wpOps S un t0 r (j + 1) acc ⟨putE st.env dst (.v (.bool (c == 0))), up q.2.1 y.1 (y.2, .lp fc.1 fc.2 (sOf c)), q.2.2⟩ Q
              | none => False
          | none => False
        | _, _ => False

/-- An owned slice frozen. -/
def frzV (ob : Ob) (a : AV) : Option (AV × Ob) :=
  match a with
  | .own p g k1 off n => match lk ob p with
    | some (g', .arr k xs) => if g = g' ∧ k1 = k ∧ off + n ≤ xs.length then some (.sl k ((xs.drop off).take n), rm ob p) else none
    | _ => none
  | .nil => some (.nil, ob)
  | .e0 => some (.e0, ob)
  | .sl k xs => some (.sl k xs, ob)
  | _ => none

/-- What code comes to. -/
def wpS (S : Job → Prop) : ACode → St → (Ex → St → Prop) → Prop
  | .skip, st, Q => Q .nrm st
  | .seq a b, st, Q => wpS S a st fun e st' => match e with
    | .nrm => wpS S b st' Q
    | e => Q e st'
  | .reg is un, st, Q => wpOps S un st.tk is 0 [] { st with tk := nextTk st.tk is } fun st' => Q .nrm st'
  | .cond x a b, st, Q => match x.ev st.env with
    | some (.v (.bool t)) => if t then wpS S a st Q else wpS S b st Q
    | _ => False
  | .blk id c, st, Q => wpS S c st fun e st' => match e with
    | .exit id' => if id' = id then Q .nrm st' else Q (.exit id') st'
    | e => Q e st'
  | .loop c, st, Q => ∃ R : Ex → St → Prop, S (.loop c st R) ∧ ∀ e st', R e st' → Q e st'
  | .exit id, st, Q => Q (.exit id) st
  | .ret, st, Q => Q .ret st
  | .stop, _, _ => False
  | .sub c, st, Q => wpS S c st Q
  | .keep ss ps, st, Q => Q .nrm { st with env := kp st.env ss, ob := rmAll st.ob ps }
  | .rng x J f slots, st, Q => match (x.ev st.env).bind fnV, slotsV st.env slots with
    | some h, some caps => lk st.ob J = none ∧
      ∃ q : AV × Ob × Nat, S (.call h.1 (.yl J st.tk :: h.2) (up st.ob J (st.tk, .lp f caps none)) (st.tk + 1) fun a o t => (a, o, t) = q) ∧
        match leftBy q.2.1 J st.tk with
        | some none => Q .nrm ⟨st.env, rm q.2.1 J, q.2.2⟩
        | some (some n) => Q (exJ n) ⟨st.env, rm q.2.1 J, q.2.2⟩
        | none => False
    | _, _ => False
  | .rnd ss a c, st, Q => match reEnv st.env ss 0 with
    | some env => wpS S a ⟨env, st.ob, st.tk⟩ fun e st' => match e with
      | .nrm => wpS S c st' fun e st' => Q .nrm ⟨[(0, .v (.int .i64 (codeEx e)))], st'.ob, st'.tk⟩
      | _ => False
    | none => False
  | .frz s, st, Q => match lk st.env s with
    | some a => match frzV st.ob a with
      | some r => Q .nrm ⟨up st.env s r.1, r.2, st.tk⟩
      | none => False
    | none => False

def RV.ev (st : St) : RV → Option AV
  | .tmp s => lk st.env s
  | .cell s n ag => match lk st.env s with
    | some a => (loadV n ag a).run st.ob
    | none => none

def rvAll (st : St) : List RV → Option (List AV)
  | [] => some []
  | r :: rs => match r.ev st, rvAll st rs with
    | some a, some as => some (a :: as)
    | _, _ => none

def AFun.result (fn : AFun) (st : St) : Option AV :=
  match rvAll st fn.rs with
  | some [a] => some a
  | some as => some (.tup as)
  | none => none

def envOf : Nat → List AV → Env
  | _, [] => []
  | n, a :: as => (n, a) :: envOf (n + 1) as

/-- One step: what the jobs come to, given what the jobs that they wait for come to. -/
def stepJ (T : Nat → Option ADef) (S : Job → Prop) : Job → Prop
  | .call f args ob tk R => match T f with
    | some (.code fn) => args.length = fn.np ∧ wpS S fn.body ⟨envOf 0 args, ob, tk⟩ fun e st => (match e with
      | .exit _ => False
      | _ => True) ∧ ∃ a, fn.result st = some a ∧ R a st.ob st.tk
    | some (.ext e) => e args ob tk R
    | none => False
  | .loop c st Q => wpS S c st fun e st' => match e with
    | .nrm => S (.loop c st' Q)
    | e => Q e st'

/-- The least predicate that holds wherever its step holds. -/
def Holds (T : Nat → Option ADef) (J : Job) : Prop := ∀ S : Job → Prop, (∀ J, stepJ T S J → S J) → S J

end Go.Fw
