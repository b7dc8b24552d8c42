/- The reckoner: it runs a function's code over data without memory (rows as lists), under hints. Definitions alone. -/
import Derived.Laws.OwnMore
set_option linter.unusedVariables false
set_option linter.unusedSimpArgs false
namespace Go.Sx

/-- A datum: what an element of a row, or what is handed through a cut, reads as. -/
inductive D where
  | int (n : Int) | bool (b : Bool) | str (s : ByteArray) | row (l : List D) | agg (l : List D)
def D.i : D → Int
  | .int n => n
  | _ => 0
def D.b : D → Bool
  | .bool b => b
  | _ => false
def D.s : D → ByteArray
  | .str s => s
  | _ => ⟨#[]⟩
def D.r : D → List D
  | .row l => l
  | _ => []
def D.c (d : D) (j : Nat) : D :=
  match d with
  | .agg l => l.getD j (.int 0)
  | _ => .int 0

/-- What a cell holds. -/
inductive CT where
  | int (k : IntKind) | bool | str | sl (e : Nat) | ptr | fn | map (k e : Nat) | other
  deriving DecidableEq

/-- A type: its cells; the fields of a struct (offset, type); the bytes of one. -/
structure TyI where
  agg : Bool
  cells : List CT
  fields : List (Nat × Nat)
  bytes : Nat
  eq : Bool := false
  arr : Option Nat := none

inductive AV where
  | undef | int (k : IntKind) (n : Int) | bool (b : Bool) | tb (u : Nat) (b : Bool) | str (s : ByteArray)
  | srow (e : Nat) (l : List D) | frow (e : Nat) (l : List D) | nilsl | esl
  | orow (id : Nat) | ptr (id off : Nat) | eptr (e id : Nat) (i : Int) (off : Nat) | sptr (e : Nat) (d : D) (off : Nat)
  | nilptr | clo (f : Nat) (caps : List AV) | nilfn | mapr (id : Nat) | nilmap
  | agg (l : List AV) | tup (l : List AV)
  | own (e : Nat) (l : List D) | box (t : Nat) (cells : List AV) | skip
  | krow (e : Nat) (l : List D) (nil : Bool)
  | nptr (e : Nat) (d : D)

inductive Ent where
  | unborn | dead
  | row (e : Nat) (l : List D) (full : Bool) | frz (e : Nat) (l : List D) | box (t : Nat) (cells : List AV)
  | map (e : Nat) (own : Bool) (m : List D) (tk : Option (ByteArray × Nat))

abbrev Tab := Nat → Ent
def Tab.upd (h : Tab) (id : Nat) (e : Ent) : Tab := fun j => bif Nat.beq j id then e else h j

/-- A small program over the table of what is owned. -/
inductive M (α : Type) where
  | ret (a : α) | fail | br (b : Bool) (x y : M α) | chk (b : Bool) (k : M α) | get (id : Nat) (k : Ent → M α) | put (id : Nat) (e : Ent) (k : M α)
def M.bind {α β : Type} : M α → (α → M β) → M β
  | .ret a, f => f a
  | .fail, _ => .fail
  | .br b x y, f => .br b (x.bind f) (y.bind f)
  | .chk b k, f => .chk b (k.bind f)
  | .get id k, f => .get id fun e => (k e).bind f
  | .put id e k, f => .put id e (k.bind f)
/-- It is run; what it looked at and what it put is kept. -/
def M.run {α R : Type} (K : α → Tab → List Nat → List Nat → Option R) : M α → Tab → List Nat → List Nat → Option R
  | .ret a, h, r, w => K a h r w
  | .fail, _, _, _ => none
  | .br b x y, h, r, w => bif b then x.run K h r w else y.run K h r w
  | .chk b k, h, r, w => bif b then k.run K h r w else none
  | .get id k, h, r, w => (k (h id)).run K h (id :: r) w
  | .put id e k, h, r, w => k.run K (h.upd id e) r (id :: w)
def M.new (id : Nat) (e : Ent) : M Unit := .get id fun
  | .unborn => .put id e (.ret ())
  | _ => .fail

/-! Maps from strings: a list of (key, value), in the order in which the keys came. -/
def keyIs (s : ByteArray) (d : D) : Bool := (d.c 0).s.toList == s.toList
def mHas (m : List D) (s : ByteArray) : Bool := m.any (keyIs s)
def mGet (m : List D) (s : ByteArray) (z : D) : D :=
  match m.find? (keyIs s) with
  | some d => d.c 1
  | none => z
def mPut (m : List D) (s : ByteArray) (v : D) : List D := bif mHas m s then m.map (fun d => bif keyIs s d then .agg [.str s, v] else d) else m ++ [.agg [.str s, v]]
/-- The row that was taken out of a map is put back. -/
def settle (h : Tab) (id : Nat) : Tab :=
  match h id with
  | .map e true m (some (s, u)) => match h u with
    | .row e' l _ => bif Nat.beq e e' then (h.upd u .dead).upd id (.map e true (bif mHas m s then mPut m s (.row l) else m) none) else h
    | _ => h
  | _ => h

section
variable (T : Nat → TyI)

/-- The type is in the table. -/
def kn (t : Nat) : Bool := Nat.blt 0 (T t).cells.length
/-- The element type of a slice type. -/
def slE (t : Nat) : Option Nat :=
  match T t with
  | ⟨false, [.sl e], _, _, _, _⟩ => some e
  | _ => none
/-- A type of bytes. -/
def isU8 (e : Nat) : Bool :=
  match T e with
  | ⟨false, [.int .u8], _, _, _, _⟩ => true
  | _ => false
def ofD (c : CT) (d : D) : AV :=
  match c with
  | .int k => .int k d.i
  | .bool => .bool d.b
  | .str => .str d.s
  | .sl e => .srow e d.r
  | _ => .undef
def zeroC : CT → AV
  | .int k => .int k 0
  | .bool => .bool false
  | .str => .str ⟨#[]⟩
  | .sl _ => .nilsl
  | .ptr => .nilptr
  | .fn => .nilfn
  | .map _ _ => .nilmap
  | .other => .undef
def zeroDC : CT → D
  | .int _ => .int 0
  | .bool => .bool false
  | .str => .str ⟨#[]⟩
  | _ => .row []
def okZ : CT → Bool
  | .int _ => true
  | .bool => true
  | .str => true
  | .sl _ => true
  | _ => false
/-- The zero of an element type. -/
def zeroD (e : Nat) : D := bif (T e).agg then .agg ((T e).cells.map zeroDC) else zeroDC ((T e).cells.getD 0 .other)
def zeroT (t : Nat) : AV := if (T t).agg then .agg ((T t).cells.map zeroC) else zeroC ((T t).cells.getD 0 .other)
/-- The cell j of an element of type e. -/
def cellD (e : Nat) (d : D) (j : Nat) : D := bif (T e).agg then d.c j else d
def elCells (e : Nat) (d : D) : List AV := (List.range (T e).cells.length).map fun j => ofD ((T e).cells.getD j .other) (cellD T e d j)
/-- Cells from a place on, as a value of type t. -/
def valOf (t : Nat) (cs : List AV) (off : Nat) : AV := bif (T t).agg then .agg ((cs.drop off).take (T t).cells.length) else cs.getD off .undef
def cellsV : AV → List AV
  | .agg l => l
  | v => [v]
/-- A cell's value, as a datum of a row: it fits the cell's kind. What was owned is never changed again. -/
def toD (c : CT) (v : AV) : M D :=
  match v, c with
  | .int k n, .int k' => .chk (decide (k = k')) (.ret (.int n))
  | .bool b, .bool => .ret (.bool b)
  | .str s, .str => .ret (.str s)
  | .srow e l, .sl e' => .chk (Nat.beq e e') (.ret (.row l))
  | .frow e l, .sl e' => .chk (Nat.beq e e') (.ret (.row l))
  | .nilsl, .sl _ => .ret (.row [])
  | .esl, .sl _ => .ret (.row [])
  | .orow id, .sl e' => .get id fun
    | .row e l _ => .chk (Nat.beq e e') (.put id (.frz e l) (.ret (.row l)))
    | .frz e l => .chk (Nat.beq e e') (.ret (.row l))
    | _ => .fail
  | _, _ => .fail
def toDs : List CT → List AV → M (List D)
  | [], [] => .ret []
  | c :: cs, v :: vs => (toD c v).bind fun d => (toDs cs vs).bind fun ds => .ret (d :: ds)
  | _, _ => .fail
/-- A value as an element of type e. -/
def toEl (e : Nat) (v : AV) : M D := (toDs (T e).cells (cellsV v)).bind fun ds => .ret (bif (T e).agg then .agg ds else ds.getD 0 (.int 0))

/-- A row that is read: its elements' type and its elements. -/
def rowOf (e : Nat) (v : AV) : M (Nat × List D) :=
  match v with
  | .srow e l => .ret (e, l)
  | .frow e l => .ret (e, l)
  | .krow e l _ => .ret (e, l)
  | .nilsl => .ret (e, [])
  | .esl => .ret (e, [])
  | .orow id => .get id fun
    | .row e l _ => .ret (e, l)
    | .frz e l => .ret (e, l)
    | _ => .fail
  | _ => .fail

def constC : Value → AV
  | .int k n => .int k n
  | .bool b => .bool b
  | .string s => .str s
  | .slice none 0 0 => .nilsl
  | .pointer none => .nilptr
  | .nilFunc => .nilfn
  | .map none => .nilmap
  | _ => .undef
def constV : Value → AV
  | .agg ⟨l⟩ => .agg (l.map constC)
  | v => constC v

def bops (op : BinOp) (x y : ByteArray) : M AV :=
  match op with
  | .add => .chk (decide (x.size + y.size ≤ 9223372036854775807)) (.ret (.str (x ++ y)))
  | .eql => .ret (.bool (x.toList == y.toList))
  | .neq => .ret (.bool !(x.toList == y.toList))
  | .lss => .ret (.bool (Op.bytesLess x.toList y.toList))
  | .leq => .ret (.bool (Op.bytesLess x.toList y.toList || x.toList == y.toList))
  | .gtr => .ret (.bool !(Op.bytesLess x.toList y.toList || x.toList == y.toList))
  | .geq => .ret (.bool !(Op.bytesLess x.toList y.toList))
  | _ => .fail
/-- Bit by bit. -/
def bitsI (op : BinOp) (k : IntKind) (x y : Int) : Int :=
  let a := BitVec.ofInt k.bits x
  let b := BitVec.ofInt k.bits y
  k.wrap (match op with
  | .and => (a &&& b).toNat
  | .or => (a ||| b).toNat
  | .xor => (a ^^^ b).toNat
  | _ => (a &&& ~~~b).toNat : Nat)
def bopi (op : BinOp) (k : IntKind) (x y : Int) : M AV :=
  match op with
  | .add => .ret (.int k (k.wrap (x + y)))
  | .sub => .ret (.int k (k.wrap (x - y)))
  | .mul => .ret (.int k (k.wrap (x * y)))
  | .quo => .br (decide (y = 0)) .fail (.ret (.int k (k.wrap (x.tdiv y))))
  | .rem => .br (decide (y = 0)) .fail (.ret (.int k (x.tmod y)))
  | .and => .ret (.int k (bitsI .and k x y))
  | .or => .ret (.int k (bitsI .or k x y))
  | .xor => .ret (.int k (bitsI .xor k x y))
  | .andNot => .ret (.int k (bitsI .andNot k x y))
  | .eql => .ret (.bool (x == y))
  | .neq => .ret (.bool (x != y))
  | .lss => .ret (.bool (decide (x < y)))
  | .leq => .ret (.bool (decide (x ≤ y)))
  | .gtr => .ret (.bool (decide (x > y)))
  | .geq => .ret (.bool (decide (x ≥ y)))
  | _ => .fail
def eqCells : List AV → List AV → Option Bool
  | [], [] => some true
  | .int k a :: l, .int k' b :: l' => bif decide (k = k') then (eqCells l l').map fun r => a == b && r else none
  | .bool a :: l, .bool b :: l' => (eqCells l l').map fun r => a == b && r
  | .str a :: l, .str b :: l' => (eqCells l l').map fun r => a == b && r
  | _, _ => none
/-- Scalars of these kinds. -/
def fitL : List CT → List AV → Bool
  | [], [] => true
  | .int k :: l, .int k' _ :: m => decide (k = k') && fitL l m
  | .bool :: l, .bool _ :: m => fitL l m
  | .str :: l, .str _ :: m => fitL l m
  | _, _ => false
def bop (t : Nat) (op : BinOp) (x y : AV) : M AV :=
  match x, y with
  | .int k a, .int k' b => match op with
    | .shl => .br (decide (b < 0)) .fail (.ret (.int k (k.wrap (a * 2 ^ (min b.toNat k.bits)))))
    | .shr => .br (decide (b < 0)) .fail (.ret (.int k (a.fdiv (2 ^ (min b.toNat k.bits)))))
    | _ => .chk (decide (k = k')) (bopi op k a b)
  | .str a, .str b => bops op a b
  | .bool a, .bool b => .chk (decide ((T t).cells = [.bool]) && !(T t).agg) (match op with
    | .eql => .ret (.bool (a == b))
    | .neq => .ret (.bool !(a == b))
    | _ => .fail)
  | .nilptr, .nilptr => .chk (decide ((T t).cells = [.ptr]) && !(T t).agg) (match op with
    | .eql => .ret (.bool true)
    | .neq => .ret (.bool false)
    | _ => .fail)
  | .ptr _ _, .nilptr => .chk (decide ((T t).cells = [.ptr]) && !(T t).agg) (match op with
    | .eql => .ret (.bool false)
    | .neq => .ret (.bool true)
    | _ => .fail)
  | .agg a, .agg b => .chk ((T t).eq && kn T t && fitL (T t).cells a) (match eqCells a b, op with
    | some r, .eql => .ret (.bool r)
    | some r, .neq => .ret (.bool !r)
    | _, _ => .fail)
  | .krow _ _ b, .nilsl => match slE T t, op with
    | some _, .eql => .ret (.bool b)
    | some _, .neq => .ret (.bool !b)
    | _, _ => .fail
  | _, _ => .fail
def uop (op : UnOp) (x : AV) : M AV :=
  match op, x with
  | .neg, .int k n => .ret (.int k (k.wrap (0 - n)))
  | .not, .bool b => .ret (.bool !b)
  | _, _ => .fail

def setCells (cs : List AV) (off : Nat) (new : List AV) : List AV := cs.take off ++ new ++ cs.drop (off + new.length)

/-- The numbers n, n + 1, .. -/
def seqFrom (n : Nat) : List Nat → Bool
  | [] => true
  | i :: l => Nat.beq i n && seqFrom (n + 1) l
/-- Every cell is known. -/
def fullC : AV → Bool
  | .int _ _ => true
  | .bool _ => true
  | .tb _ _ => true
  | .str _ => true
  | .srow _ _ => true
  | .frow _ _ => true
  | .nilsl => true
  | .esl => true
  | .orow _ => true
  | .ptr _ _ => true
  | .eptr _ _ _ _ => true
  | .sptr _ _ _ => true
  | .nilptr => true
  | .clo _ _ => true
  | .nilfn => true
  | .nilmap => true
  | _ => false
def fullL : List AV → Bool
  | [] => true
  | v :: l => fullC v && fullL l
def buildP (t : Nat) : List (Nat × AV) → List AV → M (List AV)
  | [], cs => .ret cs
  | p :: l, cs => match (T t).fields[p.1]? with
    | some (off, ft) => .chk (fullL (cellsV p.2) && Nat.beq (cellsV p.2).length (T ft).cells.length && Nat.ble (off + (cellsV p.2).length) cs.length) (buildP t l (setCells cs off (cellsV p.2)))
    | none => .fail
def toEls (e : Nat) : List AV → M (List D)
  | [] => .ret []
  | v :: l => (toEl T e v).bind fun d => (toEls e l).bind fun ds => .ret (d :: ds)
/-- What an operation comes to: a value; or a call. -/
inductive Step where
  | val (v : AV) | call (g : Nat) (args : List AV) (k : List AV → M AV)

def elAt (l : List D) (i : Int) : D := l.getD i.toNat (.int 0)
def inRow (i : Int) (n : Nat) : Bool := decide (0 ≤ i) && decide (i < (n : Int))
/-- Handed to a call: what is owned is read there. -/
def argV (c : CT) (v : AV) : M AV :=
  match v with
  | .orow id => .get id fun
    | .row e l _ => .ret (.srow e l)
    | .frz e l => .ret (.srow e l)
    | _ => .fail
  | .frow e l => .ret (.srow e l)
  | .nilsl => match c with
    | .sl e => .ret (.srow e [])
    | _ => .fail
  | .esl => match c with
    | .sl e => .ret (.srow e [])
    | _ => .fail
  | .int k n => .ret (.int k n)
  | .bool b => .ret (.bool b)
  | .str s => .ret (.str s)
  | .srow e l => .ret (.srow e l)
  | .nilfn => .ret .nilfn
  | _ => .fail
def argVs : List CT → List AV → M (List AV)
  | [], [] => .ret []
  | c :: cs, v :: vs => (argV c v).bind fun d => (argVs cs vs).bind fun ds => .ret (d :: ds)
  | _, _ => .fail
def argT (t : Nat) (v : AV) : M AV :=
  match v with
  | .agg l => (argVs (T t).cells l).bind fun l => .ret (.agg l)
  | v => argV ((T t).cells.getD 0 .other) v
/-- What came back: what is new gets numbers from n on. -/
def resV (n : Nat) (v : AV) : M AV :=
  match v with
  | .own e l => (M.new n (.row e l false)).bind fun _ => .ret (.orow n)
  | v => .ret v
def resVs (n : Nat) : List AV → M (List AV)
  | [] => .ret []
  | v :: vs => (resV n v).bind fun d => (resVs (n + 2) vs).bind fun ds => .ret (d :: ds)
def resT (n : Nat) (v : AV) : M AV :=
  match v with
  | .agg l => (resVs n l).bind fun l => .ret (.agg l)
  | v => resV n v
def resTs (n : Nat) : List AV → M (List AV)
  | [] => .ret []
  | v :: vs => (resT n v).bind fun d => (resTs (n + 64) vs).bind fun ds => .ret (d :: ds)

def argTs : List (Nat × AV) → M (List AV)
  | [] => .ret []
  | p :: l => (argT T p.1 p.2).bind fun a => (argTs l).bind fun as => .ret (a :: as)
/-- What is owned and was lent to a call. -/
def lentC : AV → List Nat
  | .orow id => [id]
  | _ => []
def lentCs : List AV → List Nat
  | [] => []
  | v :: l => lentC v ++ lentCs l
def lentV : AV → List Nat
  | .agg l => lentCs l
  | v => lentC v
def lentL : List AV → List Nat
  | [] => []
  | v :: l => lentV v ++ lentL l
def freezeL : List Nat → M Unit
  | [] => .ret ()
  | id :: l => .get id fun
    | .row e x _ => .put id (.frz e x) (freezeL l)
    | .frz _ _ => freezeL l
    | _ => .fail
/-- A result that may look into what was lent. -/
def leakC : AV → Bool
  | .srow _ _ => true
  | .frow _ _ => true
  | .krow _ _ _ => true
  | .sptr _ _ _ => true
  | .nptr _ _ => true
  | .own e _ => (T e).cells.any fun c => match c with | .sl _ => true | _ => false
  | _ => false
def leakCs : List AV → Bool
  | [] => false
  | v :: l => leakC T v || leakCs l
def leakV : AV → Bool
  | .agg l => leakCs T l
  | v => leakC T v
def leakL : List AV → Bool
  | [] => false
  | v :: l => leakV T v || leakL l

def packAV : List AV → AV
  | [a] => a
  | vs => .tup vs
/-- What came back is taken in; what was lent is never changed again if it may be looked into. -/
def backOf (u : Nat) (ids : List Nat) (res : List AV) : M AV :=
  (bif leakL T res then freezeL ids else .ret ()).bind fun _ => (resTs u res).bind fun vs => .ret (packAV vs)

def needOk (n b : Nat) : Bool := decide (n * b ≤ 140737488355328)

def ptrs : List AV → Bool
  | [] => true
  | .ptr _ _ :: l => ptrs l
  | _ => false
/-- The bounds of a cut. -/
def bnd (ρ : Operand → AV) (lo hi : Option Operand) (n : Nat) (k : Nat → Nat → M Step) : M Step :=
  match lo.map ρ, hi.map ρ with
  | none, none => k 0 n
  | some (.int _ a), none => .chk (decide (0 ≤ a) && decide (a ≤ (n : Int))) (k a.toNat n)
  | none, some (.int _ b) => .chk (decide (0 ≤ b) && decide (b ≤ (n : Int))) (k 0 b.toNat)
  | some (.int _ a), some (.int _ b) => .chk (decide (0 ≤ b) && decide (b ≤ (n : Int))) (.chk (decide (0 ≤ a) && decide (a ≤ b)) (k a.toNat b.toNat))
  | _, _ => .fail
/-- A map's type: its keys' type, its elements' type. -/
def mapTy (t : Nat) : Option (Nat × Nat) :=
  match T t with
  | ⟨false, [.map k e], _, _, _, _⟩ => bif decide ((T k).cells = [.str]) && !(T k).agg then some (k, e) else none
  | _ => none
/-- Elements that are whole numbers, truth values, strings. -/
def scalT (e : Nat) : Bool :=
  match T e with
  | ⟨false, [.int _], _, _, _, _⟩ => true
  | ⟨false, [.bool], _, _, _, _⟩ => true
  | ⟨false, [.str], _, _, _, _⟩ => true
  | _ => false
/-- What is appended. -/
def newsOf (e t t' : Nat) (y : AV) : M (List D) :=
  match y with
  | .str b => .chk (isU8 T e && !(T t').agg && decide ((T t').cells = [.str])) (.ret (b.toList.map fun c => .int c.toNat))
  | y => (rowOf e y).bind fun p => .chk (Nat.beq p.1 e && Nat.beq t t') (.ret p.2)
def appOn (e u md : Nat) (l2 : List D) (s : AV) : M Step :=
  match s with
  | .nilsl => .chk (needOk l2.length (T e).bytes) ((M.new u (.row e l2 false)).bind fun _ => .ret (.val (.orow u)))
  | .esl => .chk (needOk l2.length (T e).bytes) ((M.new u (.row e l2 false)).bind fun _ => .ret (.val (.orow u)))
  | .frow e' l => .chk (Nat.beq e e' && needOk (l.length + l2.length) (T e).bytes && Nat.blt 0 l2.length) ((M.new u (.row e (l ++ l2) false)).bind fun _ => .ret (.val (.orow u)))
  | .orow id => .get id fun
    | .row e' l f => .chk (Nat.beq e e' && needOk (l.length + l2.length) (T e).bytes) (match md with
      | 2 => .chk (f && Nat.blt 0 l2.length) ((M.new u (.row e (l ++ l2) false)).bind fun _ => .ret (.val (.orow u)))
      | _ => .put id .dead ((M.new u (.row e (l ++ l2) false)).bind fun _ => .ret (.val (.orow u))))
    | _ => .fail
  | _ => .fail
/-- One of the numbers from j on. -/
def pickI {α : Type} (i : Int) (j : Nat) : Nat → (Nat → M α) → M α
  | 0, _ => .fail
  | n + 1, k => .br (decide (i = (j : Int))) (k j) (pickI i (j + 1) n k)
/-- One operation. u: its own odd number; md: its hint. -/
def aop (u md : Nat) (ρ : Operand → AV) (o : Op) : M Step :=
  let v (m : M AV) : M Step := m.bind fun a => .ret (.val a)
  match o with
  | .move x => .ret (.val (ρ x))
  | .assign x => .ret (.val (ρ x))
  | .pick c a b => match ρ c with
    | .bool x => match ρ a, ρ b with
      | .bool p, .bool q => .ret (.val (.bool (bif x then p else q)))
      | p, q => .br x (.ret (.val p)) (.ret (.val q))
    | _ => .fail
  | .alloc t => .chk (kn T t) ((M.new u (.box t ((T t).cells.map zeroC))).bind fun _ => .ret (.val (.ptr u 0)))
  | .box t x => .chk (kn T t && Nat.beq (cellsV (ρ x)).length (T t).cells.length && fullL (cellsV (ρ x))) ((M.new u (.box t (cellsV (ρ x)))).bind fun _ => .ret (.val (.ptr u 0)))
  | .build t ⟨[]⟩ => match (T t).arr with
    | some e => .chk ((T t).agg && kn T t && kn T e) (.ret (.val (.agg ((T t).cells.map zeroC))))
    | none => v (.chk ((T t).agg && kn T t && !(T t).fields.isEmpty) ((buildP T t [] ((T t).cells.map zeroC)).bind fun cs => .ret (.agg cs)))
  | .build t parts => v (.chk ((T t).agg && kn T t && !(T t).fields.isEmpty) ((buildP T t (parts.toList.map fun p => (p.1, ρ p.2)) ((T t).cells.map zeroC)).bind fun cs => .ret (.agg cs)))
  | .buildSlice t len parts => match slE T t with
    | some e => .chk (kn T e && Nat.beq parts.size len && seqFrom 0 (parts.toList.map (·.1)) && decide (len * (T e).cells.length ≤ 16777216)) (v ((toEls T e (parts.toList.map fun p => ρ p.2)).bind fun l => (M.new u (.row e l true)).bind fun _ => .ret (.orow u)))
    | _ => .fail
  | .load t a => match ρ a with
    | .ptr id off => .get id fun
      | .box _ cs => .chk (kn T t && Nat.ble (off + (T t).cells.length) cs.length) (.ret (.val (valOf T t cs off)))
      | _ => .fail
    | .eptr e id i off => .get id fun
      | .row e' l _ => .chk (Nat.beq e e' && kn T t && Nat.ble (off + (T t).cells.length) (T e).cells.length) (.ret (.val (valOf T t (elCells T e (elAt l i)) off)))
      | .frz e' l => .chk (Nat.beq e e' && kn T t && Nat.ble (off + (T t).cells.length) (T e).cells.length) (.ret (.val (valOf T t (elCells T e (elAt l i)) off)))
      | _ => .fail
    | .sptr e d off => .chk (kn T t && Nat.ble (off + (T t).cells.length) (T e).cells.length) (.ret (.val (valOf T t (elCells T e d) off)))
    | _ => .fail
  | .store t a x => match ρ a with
    | .ptr id off => .get id fun
      | .box bt cs => .chk (kn T t && Nat.ble (off + (T t).cells.length) cs.length && Nat.beq (cellsV (ρ x)).length (T t).cells.length && fullL (cellsV (ρ x))) (.put id (.box bt (setCells cs off (cellsV (ρ x)))) (.ret (.val .undef)))
      | _ => .fail
    | .eptr e id i off => (toDs (((T t).cells)) (cellsV (ρ x))).bind fun ds => .get id fun
      | .row e' l f => .chk (Nat.beq e e' && kn T t && decide (((T e).cells.drop off).take (T t).cells.length = (T t).cells)) (.put id (.row e (l.set i.toNat
          (bif (T e).agg then .agg ((List.range (T e).cells.length).map fun j => bif Nat.ble off j && Nat.blt j (off + ds.length) then ds.getD (j - off) (.int 0) else (elAt l i).c j) else ds.getD 0 (.int 0))) f) (.ret (.val .undef)))
      | _ => .fail
    | _ => .fail
  | .nilCheck x => match ρ x with
    | .nptr e d => .chk (!(d.c 0).b) (.ret (.val (.sptr e (d.c 1) 0)))
    | .ptr id off => .ret (.val (.ptr id off))
    | .eptr e id i off => .ret (.val (.eptr e id i off))
    | .sptr e d off => .ret (.val (.sptr e d off))
    | .clo f c => .ret (.val (.clo f c))
    | _ => .fail
  | .binOp op t x y _ => v (bop T t op (ρ x) (ρ y))
  | .unOp op _ x => v (uop op (ρ x))
  | .convert src dst x => match ρ x, (T dst).cells with
    | .int _ n, [.int k] => .chk (!(T dst).agg && kn T src) (.ret (.val (.int k (k.wrap n))))
    | .int _ n, [.str] => .chk (!(T dst).agg && kn T src) (.ret (.val (.str (Utf8.encode n))))
    | .str s, [.str] => .chk (!(T dst).agg && kn T src) (.ret (.val (.str s)))
    | .str s, _ => match slE T dst with
      | some e => .chk (isU8 T e && decide ((T src).cells = [.str]) && !(T src).agg) (.ret (.val (.srow e (s.toList.map fun b => .int b.toNat))))
      | none => .fail
    | y, [.str] => match slE T src with
      | some e => .chk (!(T dst).agg && isU8 T e) ((rowOf e y).bind fun p => .chk (Nat.beq p.1 e) (.ret (.val (.str ⟨(p.2.map fun d => UInt8.ofNat d.i.toNat).toArray⟩))))
      | none => .fail
    | .orow id, _ => match slE T dst with
      | some e => .chk (Nat.beq src dst && isU8 T e) (.get id fun
        | .row e' l f => .chk (Nat.beq e' e && !l.isEmpty) (.put id .dead (.ret (.val (bif f then .frow e l else .srow e l))))
        | _ => .fail)
      | none => .fail
    | _, _ => .fail
  | .makeFunc (.func f) ⟨[]⟩ caps => .chk (ptrs (caps.toList.map ρ)) (.ret (.val (.clo f (caps.toList.map ρ))))
  | .makeSlice t l c => match slE T t, ρ l, ρ c with
    | some e, .int _ n, .int _ m => .chk (kn T e && decide (0 ≤ n) && decide (n = m) && needOk m.toNat (T e).bytes && (T e).cells.all okZ && decide (m ≤ 9223372036854775807)) ((M.new u (.row e (List.replicate n.toNat (zeroD T e)) false)).bind fun _ => .ret (.val (.orow u)))
    | _, _, _ => .fail
  | .slice t x lo hi mx => match ρ x, mx with
    | .str s, none => .chk (decide ((T t).cells = [.str]) && !(T t).agg) (bnd ρ lo hi s.size fun a b => .ret (.val (.str (s.extract a b))))
    | y, none => match slE T t with
      | some e => .chk (kn T e) ((rowOf e y).bind fun p => .chk (Nat.beq p.1 e) (bnd ρ lo hi p.2.length fun a b => match y with
        | .orow id => match md, lo with
          | 1, none => .get id fun
            | .row e' l _ => .chk (Nat.beq e' e) (.put id .dead ((M.new u (.row e (l.take b) false)).bind fun _ => .ret (.val (.orow u))))
            | _ => .fail
          | _, _ => .get id fun
            | .row e' l _ => .chk (Nat.beq e' e) (.put id (.frz e l) (.ret (.val (.srow e ((l.take b).drop a)))))
            | .frz e' l => .chk (Nat.beq e' e) (.ret (.val (.srow e ((l.take b).drop a))))
            | _ => .fail
        | .nilsl => .ret (.val .nilsl)
        | .esl => .ret (.val .esl)
        | .srow e' l => .chk (Nat.beq e' e) (.ret (.val (.srow e ((l.take b).drop a))))
        | .frow e' l => .chk (Nat.beq e' e) (.ret (.val (.srow e ((l.take b).drop a))))
        | _ => .fail))
      | none => .fail
    | y, some mxo => match slE T t, lo, hi, ρ mxo with
      | some e, none, some ho, .int _ 0 => .chk (kn T e) (match ρ ho, y with
        | .int _ 0, .nilsl => .ret (.val .nilsl)
        | .int _ 0, y => (rowOf e y).bind fun p => .chk (Nat.beq p.1 e) (.ret (.val .esl))
        | _, _ => .fail)
      | _, _, _, _ => .fail
  | .fieldAddr s x f => match (T s).fields[f]? with
    | some (off, ft) => .chk ((T s).agg && kn T s) (match ρ x with
      | .ptr id o => .ret (.val (.ptr id (o + off)))
      | .eptr e id i o => .ret (.val (.eptr e id i (o + off)))
      | .sptr e d o => .ret (.val (.sptr e d (o + off)))
      | _ => .fail)
    | none => .fail
  | .field s x f => match (T s).fields[f]?, ρ x with
    | some (off, ft), .agg cs => .chk (Nat.ble (off + (T ft).cells.length) cs.length && (T s).agg && kn T s) (.ret (.val (valOf T ft cs off)))
    | _, _ => .fail
  | .indexAddr t x ix => match slE T t, ρ ix with
    | some e, .int _ i => match ρ x with
      | .orow id => .get id fun
        | .row e' l _ => .chk (Nat.beq e e' && inRow i l.length && kn T e) (.ret (.val (.eptr e id i 0)))
        | .frz e' l => .chk (Nat.beq e e' && inRow i l.length && kn T e) (.ret (.val (.sptr e (elAt l i) 0)))
        | _ => .fail
      | .srow e' l => .chk (Nat.beq e e' && inRow i l.length && kn T e) (.ret (.val (.sptr e (elAt l i) 0)))
      | .frow e' l => .chk (Nat.beq e e' && inRow i l.length && kn T e) (.ret (.val (.sptr e (elAt l i) 0)))
      | _ => .fail
    | none, .int _ i => match (T t).arr, ρ x with
      | some e, .ptr id off => .chk ((T t).agg && kn T t && kn T e && Nat.beq (T e).cells.length 1) (pickI i 0 (T t).cells.length fun j => .ret (.val (.ptr id (off + j))))
      | _, _ => .fail
    | _, _ => .fail
  | .index t x ix => match ρ x, ρ ix with
    | .str s, .int _ i => .chk (inRow i s.size && decide ((T t).cells = [.str]) && !(T t).agg) (.ret (.val (.int .u8 ((s.toList.getD i.toNat 0).toNat : Int))))
    | _, _ => .fail
  | .makeMap t none => match mapTy T t with
    | some (_, e) => match slE T e with
      | some e' => .chk (kn T e') ((M.new u (.map e' true [] none)).bind fun _ => .ret (.val (.mapr u)))
      | none => .chk (scalT T e) ((M.new u (.map e false [] none)).bind fun _ => .ret (.val (.mapr u)))
    | none => .fail
  | .lookup t x k ok => match mapTy T t, ρ x, ρ k with
    | some (_, e), .mapr id, .str s => .chk (decide (s.size ≤ 9223372036854775807)) (.get id fun
      | .map e' false m _ => .chk (Nat.beq e e' && scalT T e) (.ret (.val (match ok with
        | true => .tup [ofD ((T e).cells.getD 0 .other) (mGet m s (zeroD T e)), .bool (mHas m s)]
        | false => ofD ((T e).cells.getD 0 .other) (mGet m s (zeroD T e)))))
      | .map e' true m none => match ok, slE T e with
        | false, some e'' => .chk (Nat.beq e' e'') (.put id (.map e' true m (some (s, u))) ((M.new u (.row e' (mGet m s (.row [])).r false)).bind fun _ => .ret (.val (.orow u))))
        | _, _ => .fail
      | _ => .fail)
    | _, _, _ => .fail
  | .mapUpdate t x k y => match mapTy T t, ρ x, ρ k with
    | some (_, e), .mapr id, .str s => .chk (decide (s.size ≤ 9223372036854775807)) (.get id fun
      | .map e' false m tk => .chk (Nat.beq e e' && scalT T e && Nat.blt m.length 9223372036854775807) ((toD ((T e).cells.getD 0 .other) (ρ y)).bind fun d => .put id (.map e' false (mPut m s d) tk) (.ret (.val .undef)))
      | .map e' true m tk => match slE T e, ρ y with
        | some e'', .orow r => .chk (Nat.beq e' e'' && Nat.blt m.length 9223372036854775807 && (match tk with
          | some (s', _) => s'.toList == s.toList
          | none => true)) (.get r fun
          | .row e3 l _ => .chk (Nat.beq e3 e') (.put r .dead (.put id (.map e' true (mPut m s (.row l)) none) (.ret (.val .undef))))
          | _ => .fail)
        | _, _ => .fail
      | _ => .fail)
    | _, _, _ => .fail
  | .extract x ix => match ρ x with
    | .tup l => match l[ix]? with
      | some a => .ret (.val a)
      | none => .fail
    | _ => .fail
  | .call { callee := .builtin .len, args := ⟨[x]⟩, argTypes := ⟨[t]⟩ } => match ρ x, slE T t with
    | .str s, _ => .chk (decide ((T t).cells = [.str]) && !(T t).agg) (.ret (.val (.int .i64 (s.size : Int))))
    | y, some e => (rowOf e y).bind fun p => .ret (.val (.int .i64 (p.2.length : Int)))
    | _, _ => .fail
  | .call { callee := .builtin .max, args := ⟨[x, y]⟩, argTypes := _ } => match ρ x, ρ y with
    | .int k a, .int k' b => .chk (decide (k = k')) (.ret (.val (.int k (bif decide (b > a) then b else a))))
    | _, _ => .fail
  | .call { callee := .builtin .min, args := ⟨[x, y]⟩, argTypes := _ } => match ρ x, ρ y with
    | .int k a, .int k' b => .chk (decide (k = k')) (.ret (.val (.int k (bif decide (b < a) then b else a))))
    | _, _ => .fail
  | .call { callee := .builtin .append, args := ⟨[s, x]⟩, argTypes := ⟨[t, t']⟩ } => match slE T t with
    | some e => .chk (kn T e && Nat.blt 0 (T e).bytes) ((newsOf T e t t' (ρ x)).bind fun l2 => appOn T e u md l2 (ρ s))
    | none => .fail
  | .call { callee := .value f, args := as, argTypes := ts } => match f, ρ f with
    | .func g, _ => .chk (Nat.beq as.size ts.size) ((argTs T (ts.toList.zip (as.toList.map ρ))).bind fun args => .ret (.call g args (backOf T u (lentL (as.toList.map ρ)))))
    | _, _ => .fail
  | _ => .fail

/-- A bool without its mark. -/
def plainV : AV → AV
  | .tb _ b => .bool b
  | v => v
/-- From here on: the temporaries of those who called. -/
def low (i : Nat) : Bool := Nat.blt i 1000000
def ev (t : Nat → AV) : Operand → AV
  | .tmp i => bif low i then plainV (t i) else .undef
  | .const v => constV v
  | .func f => .clo f []
  | .global _ => .undef

def hasNat (l : List Nat) (i : Nat) : Bool :=
  match l with
  | [] => false
  | n :: l => Nat.beq n i || hasNat l i

abbrev Env := Nat → Nat → List AV → (R : Type) → (List AV → Option R) → Option R

/-- Some temporaries alone. -/
def only (l : List Nat) (t : Nat → AV) (j : Nat) : AV := bif hasNat l j then t j else .undef
def opTmps (o : Oper) : List Nat := o.op.operands.toList.filterMap fun
  | .tmp i => some i
  | _ => none
/-- Who comes before, by the edges that bind in any mode, through others too: for each operation of a region in turn. -/
def befores (ops : List Oper) : List (List Nat) :=
  ops.foldl (fun acc o => acc ++ [((o.after.toList.filter fun e => Region.binds .any e).flatMap fun e => e.on :: acc.getD e.on []).eraseDups]) []
def disj (a b : List Nat) : Bool := a.all fun x => b.all fun y => !(Nat.beq x y)

structure St where
  t : Nat → AV
  h : Tab
  w : Nat

def St.put (s : St) (d : Option Nat) (v : AV) : St :=
  match d with
  | some n => { s with t := fun j => bif Nat.beq j n then v else s.t j }
  | none => s

/-- Without marks. -/
def erase (s : St) : St := ⟨fun i => plainV (s.t i), s.h, s.w⟩
/-- A bool of a mark is known. -/
def St.know (s : St) (u : Nat) (p : Bool) : St :=
  { s with t := fun j => match s.t j with
    | .tb u' b => bif Nat.beq u' u then .bool p else .tb u' b
    | v => v }
/-- What an operation leaves in its temporary: a copy stays what it is; a bool gets a mark. -/
def marked (t : Nat → AV) (u : Nat) (o : Op) (v : AV) : AV :=
  match o with
  | .move (.tmp i) => bif low i then t i else v
  | .assign (.tmp i) => bif low i then t i else v
  | _ => match v with
    | .bool b => .tb u b
    | v => v

inductive Out where
  | nrm | exit (id : Nat) | ret

inductive Sh where
  | undef | int (k : IntKind) | bool | str | srow (e : Nat) | nilsl | orow (j : Nat) | ptr (j off : Nat) | nilptr
  | agg (l : List Sh) | clo (f : Nat) (l : List (Nat × Nat)) | mapr (j : Nat) | nptr (e : Nat)
inductive Ob where
  | row (e : Nat) (full : Bool) | frz (e : Nat) | box (t : Nat) (l : List Sh) | map (e : Nat) (own : Bool)
structure Cut where
  objs : List Ob
  slots : List (Nat × Sh)

abbrev Asg := List (Nat × Option Nat)
def asgOf (a : Asg) (j : Nat) : Option (Option Nat) :=
  match a with
  | [] => none
  | (i, x) :: r => bif Nat.beq i j then some x else asgOf r j
def isId (p : Nat) (q : Nat × Option Nat) : Bool :=
  match q.2 with
  | some r => Nat.beq p r
  | none => false
def bindId (a : Asg) (j : Nat) (x : Option Nat) : Option Asg :=
  match asgOf a j with
  | some y => match x, y with
    | some p, some q => bif Nat.beq p q then some a else none
    | none, none => some a
    | _, _ => none
  | none => match x with
    | none => some ((j, none) :: a)
    | some p => bif a.any (isId p) then none else some ((j, some p) :: a)
def pkP : List (Nat × Nat) → List AV → Asg → Option Asg
  | [], [], a => some a
  | p :: l, .ptr id off :: vs, a => bif Nat.beq p.2 off then (match bindId a p.1 (some id) with
    | some a => pkP l vs a
    | none => none) else none
  | _, _, _ => none
mutual
def pkV (s : Sh) (v : AV) (a : Asg) : Option (Asg × List D) :=
  match s, v with
  | .undef, _ => some (a, [])
  | .int k, .int k' n => bif decide (k = k') then some (a, [.int n]) else none
  | .bool, .bool b => some (a, [.bool b])
  | .str, .str b => some (a, [.str b])
  | .srow e, .srow e' l => bif Nat.beq e e' then some (a, [.row l]) else none
  | .srow e, .frow e' l => bif Nat.beq e e' then some (a, [.row l]) else none
  | .srow _, .nilsl => some (a, [.row []])
  | .srow _, .esl => some (a, [.row []])
  | .nilsl, .nilsl => some (a, [])
  | .orow j, .orow id => (bindId a j (some id)).map fun a => (a, [])
  | .orow j, .nilsl => (bindId a j none).map fun a => (a, [])
  | .ptr j off, .ptr id off' => bif Nat.beq off off' then (bindId a j (some id)).map fun a => (a, []) else none
  | .nilptr, .nilptr => some (a, [])
  | .mapr j, .mapr id => (bindId a j (some id)).map fun a => (a, [])
  | .agg l, .agg l' => pkL l l' a
  | .clo f l, .clo f' l' => bif Nat.beq f f' then (pkP l l' a).map fun a => (a, []) else none
  | .nptr e, .nptr e' d => bif Nat.beq e e' then some (a, [d]) else none
  | .nptr _, .nilptr => some (a, [.agg [.bool true, .int 0]])
  | _, _ => none
def pkL (l : List Sh) (vs : List AV) (a : Asg) : Option (Asg × List D) :=
  match l, vs with
  | [], [] => some (a, [])
  | s :: l, v :: vs => match pkV s v a with
    | some (a, ds) => match pkL l vs a with
      | some (a, es) => some (a, ds ++ es)
      | none => none
    | none => none
  | _, _ => none
end
def pkO (h : Tab) (j : Nat) : List Ob → Asg → Option (List D)
  | [], _ => some []
  | o :: l, a => match asgOf a j with
    | some (some id) => match o, h id with
      | .row e f, .row e' x f' => bif Nat.beq e e' && (!f || f') then (pkO h (j + 1) l a).map fun ds => .row x :: ds else none
      | .frz e, .frz e' x => bif Nat.beq e e' then (pkO h (j + 1) l a).map fun ds => .row x :: ds else none
      | .map e own, .map e' own' m none => bif Nat.beq e e' && (own == own') then (pkO h (j + 1) l a).map fun ds => .row m :: ds else none
      | .box t ss, .box t' cs => bif Nat.beq t t' then (match pkL ss cs a with
        | some (a, ds) => (pkO h (j + 1) l a).map fun es => ds ++ es
        | none => none) else none
      | _, _ => none
    | some none => match o with
      | .row e false => bif Nat.blt 0 (T e).cells.length then (pkO h (j + 1) l a).map fun ds => .row [] :: ds else none
      | _ => none
    | none => none
def settleA (h : Tab) (a : Asg) : Tab :=
  match a with
  | [] => h
  | p :: l => settleA (match p.2 with
    | some id => settle h id
    | none => h) l
/-- What a cut tells as never changed again is not changed any more. -/
def cool1 (h : Tab) (o : Ob) (x : Option (Option Nat)) : Tab :=
  match o, x with
  | .frz _, some (some id) => match h id with
    | .row e x _ => h.upd id (.frz e x)
    | _ => h
  | _, _ => h
def coolA (h : Tab) (a : Asg) (j : Nat) : List Ob → Tab
  | [] => h
  | o :: l => coolA (cool1 h o (asgOf a j)) a (j + 1) l
def pack (c : Cut) (s : St) : Option (List D) :=
  match pkL (c.slots.map (·.2)) (c.slots.map fun p => plainV (s.t p.1)) [] with
  | some (a, ds) => (pkO T (coolA (settleA s.h a) a 0 c.objs) 0 c.objs a).map fun es => ds ++ es
  | none => none
def gt (ds : List D) (n : Nat) : D := ds.getD n (.int 0)
mutual
def unV (s : Sh) (ds : List D) (n : Nat) : AV × Nat :=
  match s with
  | .undef => (.undef, n)
  | .int k => (.int k (gt ds n).i, n + 1)
  | .bool => (.bool (gt ds n).b, n + 1)
  | .str => (.str (gt ds n).s, n + 1)
  | .srow e => (.srow e (gt ds n).r, n + 1)
  | .nilsl => (.nilsl, n)
  | .orow j => (.orow (2 * j), n)
  | .ptr j off => (.ptr (2 * j) off, n)
  | .nilptr => (.nilptr, n)
  | .mapr j => (.mapr (2 * j), n)
  | .agg l => (.agg (unL l ds n).1, (unL l ds n).2)
  | .clo f l => (.clo f (l.map fun p => .ptr (2 * p.1) p.2), n)
  | .nptr e => (.nptr e (gt ds n), n + 1)
def unL (l : List Sh) (ds : List D) (n : Nat) : List AV × Nat :=
  match l with
  | [] => ([], n)
  | s :: l => ((unV s ds n).1 :: (unL l ds (unV s ds n).2).1, (unL l ds (unV s ds n).2).2)
end
def unO : List Ob → List D → Nat → List Ent
  | [], _, _ => []
  | o :: l, ds, n => match o with
    | .row e f => .row e (gt ds n).r f :: unO l ds (n + 1)
    | .frz e => .frz e (gt ds n).r :: unO l ds (n + 1)
    | .map e own => .map e own (gt ds n).r none :: unO l ds (n + 1)
    | .box t ss => .box t (unL ss ds n).1 :: unO l ds (unL ss ds n).2
/-- The table of types, from a list. -/
def tyTab (L : List (Nat × TyI)) (t : Nat) : TyI :=
  match L with
  | [] => ⟨false, [], [], 0, false, none⟩
  | p :: L => bif Nat.beq p.1 t then p.2 else tyTab L t
def tabOf (es : List Ent) (id : Nat) : Ent := bif Nat.beq (id % 2) 1 then .unborn else es.getD (id / 2) .dead
def slotOf (ns : List (Nat × Sh)) (vs : List AV) (i : Nat) : AV :=
  match ns, vs with
  | n :: ns, v :: vs => bif Nat.beq n.1 i then v else slotOf ns vs i
  | _, _ => .undef
def unpack (c : Cut) (ds : List D) : St :=
  ⟨slotOf c.slots (unL (c.slots.map (·.2)) ds 0).1, tabOf (unO c.objs ds (unL (c.slots.map (·.2)) ds 0).2), 0⟩
mutual
def Sh.flat : Sh → Bool
  | .orow _ => false
  | .ptr _ _ => false
  | .mapr _ => false
  | .agg l => flatL l
  | .clo _ l => l.isEmpty
  | _ => true
def flatL : List Sh → Bool
  | [] => true
  | s :: l => s.flat && flatL l
end
def dstsR : List Oper → List Nat
  | [] => []
  | o :: l => o.dst.toList ++ dstsR l
/-- The temporaries that code may change. -/
def dstsC : Code → List Nat
  | .region _ ⟨ops⟩ _ => dstsR ops
  | .seq a b => dstsC a ++ dstsC b
  | .cond _ a b => dstsC a ++ dstsC b
  | .block _ a => dstsC a
  | .loop a => dstsC a
  | _ => []
/-- Where ways meet: everything is handed on anew; or nothing owned was touched, and some temporaries are handed on. -/
inductive Join where
  | full (c : Cut) | light (l : List (Nat × Sh))
def iter {R : Type} (f : Nat → (List D → Option R) → List D → Option R) : Nat → List D → Option R
  | 0, _ => none
  | k + 1, ds => f k (iter f k) ds
abbrev It := (R : Type) → (Nat → (List D → Option R) → List D → Option R) → Nat → List D → Option R
def itr : It := fun _ => iter
/-- A function that is run in its caller's place. -/
structure Inl where
  run : (R : Type) → Nat → St → (St → List AV → Option R) → Option R
structure Cx where
  loop : Nat → Option Cut
  join : Nat → Option Join
  md : Nat → Nat → Nat
  env : Env
  it : It := itr
  inl : Nat → Nat → Option (Nat × Inl) := fun _ _ => none
  hasI : Nat → Bool := fun _ => false
  base : Nat := 0

def firstR : Code → Nat
  | .region id _ _ => id
  | .seq a _ => firstR a
  | .block _ c => firstR c
  | .loop c => firstR c
  | .cond _ a _ => firstR a
  | _ => 1000000

def joinKey (a b : Code) : Nat :=
  match a with
  | .region id _ _ => 2 * id + 1
  | _ => 2 * firstR b

abbrev Tr := List (Nat × List Nat × List Nat)
/-- The edges that bind lead back. -/
def backOK : Nat → List Oper → Bool
  | _, [] => true
  | i, o :: l => (o.after.toList.all fun e => !(Region.binds .any e) || Nat.blt e.on i) && backOK (i + 1) l
/-- No two operations that may come in either order meet: neither in their temporaries nor in what is owned. -/
def apartOK (ops : List Oper) (tr : Tr) : Bool :=
  let bs := befores ops
  backOK 0 ops && tr.all fun (j, rj, wj) => tr.all fun (i, ri, wi) =>
    !(Nat.blt i j) || (bs.getD j []).any (Nat.beq i) ||
      (match ops[i]?, ops[j]? with
      | some oi, some oj =>
        let ti := opTmps oi ++ (match oi.guard with | some (g, _) => (((ops[g]?).bind (·.dst)).toList) | none => [])
        let tj := opTmps oj ++ (match oj.guard with | some (g, _) => (((ops[g]?).bind (·.dst)).toList) | none => [])
        disj oi.dst.toList tj && disj oj.dst.toList ti && disj oi.dst.toList oj.dst.toList && disj wi rj && disj wi wj && disj ri wj
      | _, _ => false)

def runStep {R : Type} (E : Env) (k : Nat) (K : AV → Tab → List Nat → List Nat → Option R) : Step → Tab → List Nat → List Nat → Option R
  | .val v, h, r, w => K v h r w
  | .call g args f, h, r, w => E g k args R fun res => (f res).run K h r w

def exOps (c : Cx) {R : Type} (k id : Nat) (all : List Oper) (K : St → Tr → Option R) : Nat → List Oper → St → Tr → Option R
  | _, [], s, tr => K s tr
  | i, o :: l, s, tr =>
    let u := 2 * (2048 * (128 * id + i)) + 1
    let go (s : St) : Option R := (aop T u (c.md id i) (ev (only (opTmps o) s.t)) o.op).run (fun st h r w => runStep c.env k (fun v h r w => exOps c k id all K (i + 1) l (St.put ⟨s.t, h, s.w + w.length⟩ o.dst (marked s.t u o.op (plainV v))) ((i, r, w) :: tr)) st h r w) s.h [] []
    let pass (s : St) : Option R := exOps c k id all K (i + 1) l (s.put o.dst .skip) ((i, [], []) :: tr)
    match o.guard with
    | none => go s
    | some (j, b) => match ((all[j]?).bind (·.dst)).map s.t with
      | some (.bool x) => bif x then (bif b then go s else pass s) else (bif b then pass s else go s)
      | some (.tb u x) => bif x then (bif b then go (s.know u true) else pass (s.know u true)) else (bif b then pass (s.know u false) else go (s.know u false))
      | some .skip => pass s
      | _ => none

/-- The callee's frame: its arguments; behind them the frames of those who called. -/
def frameIn (s : St) (args : List AV) : St := ⟨fun i => bif low i then args.getD i .undef else s.t (i - 1000000), s.h, s.w⟩
def frameOut (s : St) : St := ⟨fun i => s.t (i + 1000000), s.h, s.w⟩
def noTup : List AV → Bool
  | [] => true
  | .tup _ :: _ => false
  | _ :: l => noTup l
/-- The operations of a region in which functions are run in place. -/
def exI (c : Cx) {R : Type} (k id : Nat) (all : List Oper) (K : St → Option R) : Nat → List Oper → St → Option R
  | _, [], s => K s
  | i, o :: l, s =>
    let go (s : St) : Option R := match c.inl id i with
      | some (g, F) => match o.op with
        | .call { callee := .value f, args := as, argTypes := _ } => match ev s.t f with
          | .clo g' caps => bif Nat.beq g g' && Nat.ble (as.toList.length + caps.length) 1000000 then F.run R k (frameIn s (as.toList.map (ev s.t) ++ caps)) fun s' res => bif noTup res then exI c k id all K (i + 1) l (St.put (frameOut s') o.dst (packAV res)) else none else none
          | _ => none
        | _ => none
      | none => (aop T (2 * (2048 * (128 * id + i)) + 1) (c.md id i) (ev (only (opTmps o) s.t)) o.op).run (fun st h r w => runStep c.env k (fun v h _ w => exI c k id all K (i + 1) l (St.put ⟨s.t, h, s.w + w.length⟩ o.dst (plainV v))) st h r w) s.h [] []
    let pass : Option R := exI c k id all K (i + 1) l (s.put o.dst .skip)
    match o.guard with
    | none => go s
    | some (j, b) => match ((all[j]?).bind (·.dst)).map fun d => plainV (s.t d) with
      | some (.bool x) => bif x then (bif b then go s else pass) else (bif b then pass else go s)
      | some .skip => pass
      | _ => none

def exec (c : Cx) : Code → (R : Type) → Nat → St → (Nat → Out → St → Option R) → Option R
  | .skip, _, k, s, K => K k .nrm s
  | .region id ⟨ops⟩ draw, _, k, s, K => bif c.hasI (c.base + id) then
      (bif draw then none else exI T c k (c.base + id) ops (fun s' => K k .nrm { s' with w := s.w + 1 }) 0 ops (erase s))
    else exOps T c k (c.base + id) ops (fun s tr => bif !draw || apartOK ops tr then K k .nrm s else none) 0 ops (erase s) []
  | .seq a b, R, k, s, K => match c.join (joinKey a b) with
    | none => exec c a R k s fun k o s => match o with
      | .nrm => exec c b R k s K
      | o => K k o s
    | some (.full J) => (exec c a (List D) k s fun _ o s => match o with
      | .nrm => pack T J s
      | _ => none).bind fun ds => exec c b R k { unpack J ds with w := s.w + 1 } K
    | some (.light l) => bif flatL (l.map (·.2)) then (exec c a (List D) k s fun _ o s' => match o with
      | .nrm => bif Nat.beq s'.w s.w then (match pkL (l.map (·.2)) (l.map fun p => plainV (s'.t p.1)) [] with
        | some (_, ds) => some ds
        | none => none) else none
      | _ => none).bind fun ds => exec c b R k ⟨fun i => bif hasNat (dstsC a) i then slotOf l (unL (l.map (·.2)) ds 0).1 i else s.t i, s.h, s.w⟩ K else none
  | .cond x a b, R, k, s, K => match ev s.t x with
    | .bool p => bif p then exec c a R k s K else exec c b R k s K
    | _ => none
  | .block id a, R, k, s, K => exec c a R k s fun k o s => match o with
    | .exit j => bif Nat.beq j id then K k .nrm s else K k (.exit j) s
    | o => K k o s
  | .loop a, R, k, s, K => match c.loop (firstR a) with
    | none => none
    | some J => match pack T J s with
      | none => none
      | some ds => c.it R (fun k rec ds => exec c a R k { unpack J ds with w := s.w + 1 } fun k o s => match o with
        | .nrm => match pack T J s with
          | some ds => rec ds
          | none => none
        | o => K k o s) k ds
  | .exit id, _, k, s, K => K k (.exit id) s
  | .ret, _, k, s, K => K k .ret s
  | _, _, _, _, _ => none

/-- How a result is handed back. -/
inductive RSh where
  | int (k : IntKind) | bool | str | own (e : Nat) | seen (e : Nat) | agg (l : List RSh) | sp (e : Nat) (l : List RSh)
mutual
def pkR (s : RSh) (v : AV) : M (List D) :=
  match s, v with
  | .int k, .int k' n => .chk (decide (k = k')) (.ret [.int n])
  | .bool, .bool b => .ret [.bool b]
  | .str, .str b => .ret [.str b]
  | .own e, .nilsl => .chk (kn T e) (.ret [.row []])
  | .own e, .orow id => .get id fun
    | .row e' l _ => .chk (Nat.beq e e') (.put id .dead (.ret [.row l]))
    | _ => .fail
  | .seen _, .nilsl => .ret [.row []]
  | .seen _, .esl => .ret [.row []]
  | .seen e, .srow e' l => .chk (Nat.beq e e') (.ret [.row l])
  | .seen e, .frow e' l => .chk (Nat.beq e e') (.ret [.row l])
  | .seen e, .orow id => .get id fun
    | .row e' l _ => .chk (Nat.beq e e') (.put id (.frz e l) (.ret [.row l]))
    | .frz e' l => .chk (Nat.beq e e') (.ret [.row l])
    | _ => .fail
  | .agg ss, .agg vs => pkRL ss vs
  | _, _ => .fail
def pkRL (ss : List RSh) (vs : List AV) : M (List D) :=
  match ss, vs with
  | [], [] => .ret []
  | s :: ss, v :: vs => (pkR s v).bind fun a => (pkRL ss vs).bind fun l => .ret (a ++ l)
  | _, _ => .fail
end
mutual
def unR (s : RSh) (ds : List D) (n : Nat) : AV × Nat :=
  match s with
  | .int k => (.int k (gt ds n).i, n + 1)
  | .bool => (.bool (gt ds n).b, n + 1)
  | .str => (.str (gt ds n).s, n + 1)
  | .own e => (.own e (gt ds n).r, n + 1)
  | .seen e => (.srow e (gt ds n).r, n + 1)
  | .agg l => (.agg (unRL l ds n).1, (unRL l ds n).2)
  | .sp e _ => (.nptr e (gt ds n), n + 1)
def unRL (l : List RSh) (ds : List D) (n : Nat) : List AV × Nat :=
  match l with
  | [] => ([], n)
  | s :: l => ((unR s ds n).1 :: (unRL l ds (unR s ds n).2).1, (unRL l ds (unR s ds n).2).2)
end
/-- A cell's shape that is no owner. -/
def shC : RSh → CT → Bool
  | .int k, .int k' => decide (k = k')
  | .bool, .bool => true
  | .str, .str => true
  | .seen e, .sl e' => Nat.beq e e'
  | _, _ => false
def shCs : List RSh → List CT → Bool
  | [], [] => true
  | s :: l, c :: m => shC s c && shCs l m
  | _, _ => false
/-- One result; a pointer to a struct of the call's own, which nobody changes any more, or none. -/
def pkT (s : RSh) (v : AV) : M (List D) :=
  match s, v with
  | .sp _ _, .nilptr => .ret [.agg [.bool true, .int 0]]
  | .sp e _, .nptr e' d => .chk (Nat.beq e e') (.ret [d])
  | .sp e l, .ptr id off => .chk (Nat.beq off 0 && (T e).agg && shCs l (T e).cells) (.get id fun
    | .box t cs => .chk (Nat.beq e t) ((pkRL T l cs).bind fun ds => .get id fun
      | .box _ _ => .put id .dead (.ret [.agg [.bool false, .agg ds]])
      | _ => .fail)
    | _ => .fail)
  | s, v => pkR T s v
def pkTL (ss : List RSh) (vs : List AV) : M (List D) :=
  match ss, vs with
  | [], [] => .ret []
  | s :: ss, v :: vs => (pkT T s v).bind fun a => (pkTL ss vs).bind fun l => .ret (a ++ l)
  | _, _ => .fail
/-- Where a result stands when the code has run. -/
inductive RV where
  | tmp (i : Nat) | cell (a t : Nat)
def RV.rv : RV → ResultVar
  | .tmp i => .tmp i
  | .cell a t => .cell a t
def resV1 (s : St) : RV → Option AV
  | .tmp i => bif low i then some (plainV (s.t i)) else none
  | .cell a t => match (bif low a then plainV (s.t a) else .undef) with
    | .ptr id off => match s.h id with
      | .box _ cs => bif kn T t && Nat.ble (off + (T t).cells.length) cs.length then some (valOf T t cs off) else none
      | _ => none
    | _ => none
def resL (s : St) : List RV → Option (List AV)
  | [] => some []
  | r :: l => match resV1 T s r with
    | some a => match resL s l with
      | some as => some (a :: as)
      | none => none
    | none => none
/-- A function's code, run in its caller's place. -/
def inlOf (c : Cx) (code : Code) (res : List RV) : Inl := ⟨fun R k s K => exec T c code R k s fun _ o s' => match o with
  | .exit _ => none
  | _ => match resL T s' res with
    | some vs => K s' vs
    | none => none⟩
/-- A function's code over arguments. -/
def callF (c : Cx) (rs : List RSh) (res : List RV) (body : Code) (k : Nat) (args : List AV) : Option (List D) :=
  exec T c body (List D) k ⟨fun i => args.getD i .undef, fun _ => .unborn, 0⟩ fun _ o s => match o with
    | .exit _ => none
    | _ => match resL T s res with
      | some vs => (pkTL T rs vs).run (fun ds _ _ _ => some ds) s.h [] []
      | none => none

end
/-- A value, as data. -/
def lkup {α : Type _} (l : List (Nat × α)) (n : Nat) : Option α :=
  match l with
  | [] => none
  | p :: l => bif Nat.beq p.1 n then some p.2 else lkup l n
def mdL (l : List (Nat × Nat × Nat)) (a b : Nat) : Nat :=
  match l with
  | [] => 0
  | p :: l => bif Nat.beq p.1 a && Nat.beq p.2.1 b then p.2.2 else mdL l a b
mutual
def pkA (s : RSh) (v : AV) : Option (List D) :=
  match s, v with
  | .int k, .int k' n => bif decide (k = k') then some [.int n] else none
  | .bool, .bool b => some [.bool b]
  | .str, .str b => some [.str b]
  | .seen e, .srow e' l => bif Nat.beq e e' then some [.row l] else none
  | .agg ss, .agg vs => pkAL ss vs
  | _, _ => none
def pkAL (ss : List RSh) (vs : List AV) : Option (List D) :=
  match ss, vs with
  | [], [] => some []
  | s :: ss, v :: vs => match pkA s v with
    | some a => match pkAL ss vs with
      | some l => some (a ++ l)
      | none => none
    | none => none
  | _, _ => none
end
/-- A function that is called: what it is given, what it hands back, what it comes to. -/
structure Callee where
  sig : List RSh
  rs : List RSh
  f : Nat → List D → Option (List D)
def envL (L : List (Nat × Callee)) : Env := fun g k args _ K => match lkup L g with
  | none => none
  | some c => match pkAL c.sig args with
    | none => none
    | some ds => (c.f k ds).bind fun rs => K (unRL c.rs rs 0).1
end Go.Sx
