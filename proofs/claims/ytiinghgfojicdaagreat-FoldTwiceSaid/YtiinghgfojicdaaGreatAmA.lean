/- The abstract machine: its data, its operations, its regions, code and calls. Definitions alone. -/
import GoSem.Dispatch
import GoSem.Machine.Return
set_option linter.unusedVariables false
set_option linter.unusedSimpArgs false
/- The data of an abstract machine for the model's programs: values without the machine's addresses, blocks with generations, a heap as a tree. -/
namespace Go.AM
noncomputable section

/-- Numbers of blocks and of slots, as binary paths. -/
inductive Pos where
  | h | o (p : Pos) | i (p : Pos)
  deriving DecidableEq, Inhabited

def Pos.succ : Pos → Pos
  | .h => .o .h
  | .o p => .i p
  | .i p => .o p.succ

def Pos.ofNat : Nat → Pos
  | 0 => .h
  | n + 1 => (Pos.ofNat n).succ

def Pos.beq : Pos → Pos → Bool
  | .h, .h => true
  | .o p, .o q => p.beq q
  | .i p, .i q => p.beq q
  | _, _ => false

def Pos.toNat : Pos → Nat
  | .h => 1
  | .o p => 2 * p.toNat
  | .i p => 2 * p.toNat + 1

def Pos.max (p q : Pos) : Pos := match Nat.ble p.toNat q.toNat with
  | true => q
  | false => p

inductive Tree (α : Type) where
  | leaf
  | node (l : Tree α) (v : Option α) (r : Tree α)
  deriving Inhabited

/-- Values: a block has a number of its own, a generation ('append' gives a new one where it may write in place), and behind an address so many cells are known. -/
inductive AV where
  | undef
  | bad
  | int (k : IntKind) (n : Int)
  | bool (b : Bool)
  | str (s : List Nat)
  | nilptr
  | ptr (b : Pos) (g off ext : Nat)
  | nilslice
  | slice (b : Pos) (g off len kc : Nat) (ex : Bool) (sz : Nat)
  | nilmap
  | map (b : Pos)
  | iter (b : Pos)
  | stamp (n : Nat)
  | niliface
  | iface (t : TypeId) (v : AV)
  | nilfunc
  | func (f : FuncId) (first captured : List AV)
  | meth (name : String) (recv : AV)
  | agg (cs : List AV)
  | tuple (vs : List AV)
  deriving Inhabited

/-- Blocks: cells (st: its bytes may be seen as a string's; the newest generation; the eldest that may be read; how many cells), a map, an iterator, or one of which nothing is known. -/
inductive ABlk where
  | cells (st : Bool) (cur min len : Nat) (cs : List AV)
  | map (ver : Nat) (es : List (AV × AV))
  | iter (m : Option Pos) (ver : Nat) (left : List (AV × AV)) (now : Option AV)
  | dead
  deriving Inhabited

structure Heap where
  next : Pos
  blks : Tree ABlk
  stamps : Nat
  last : Option (Nat × Pos × AV)
  its : List Pos
  deriving Inhabited

def Tree.get {α : Type} (p : Pos) (t : Tree α) : Option α :=
  Pos.rec (motive := fun _ => Tree α → Option α)
    (fun t => Tree.rec none (fun _ v _ _ _ => v) t)
    (fun _ ih t => Tree.rec none (fun l _ _ _ _ => ih l) t)
    (fun _ ih t => Tree.rec none (fun _ _ r _ _ => ih r) t) p t
def Tree.set {α : Type} (p : Pos) (x : α) (t : Tree α) : Tree α :=
  Pos.rec (motive := fun _ => Tree α → Tree α)
    (fun t => Tree.rec (.node .leaf (some x) .leaf) (fun l _ r _ _ => .node l (some x) r) t)
    (fun _ ih t => Tree.rec (.node (ih .leaf) none .leaf) (fun l v r _ _ => .node (ih l) v r) t)
    (fun _ ih t => Tree.rec (.node .leaf none (ih .leaf)) (fun l v r _ _ => .node l v (ih r)) t) p t

/-- The second lies over the first. -/
def Tree.over {α : Type} : Tree α → Tree α → Tree α
  | .leaf, t => t
  | t, .leaf => t
  | .node l v r, .node l' v' r' => .node (l.over l') (match v' with | some x => some x | none => v) (r.over r')

/-- A list as a tree, by its places. -/
def Tree.build {α : Type} : Nat → List α → Tree α → Tree α
  | _, [], t => t
  | i, x :: l, t => Tree.build (i + 1) l (t.set (Pos.ofNat i) x)

def AV.isCell : AV → Bool
  | .undef | .bad | .iter _ | .agg _ | .tuple _ => false
  | _ => true
def aggOf (l : List AV) : AV := match l.all AV.isCell with
  | true => .agg l
  | false => .bad

def AV.ofValue : Nat → Value → AV
  | 0, _ => .bad
  | n + 1, v => match v with
    | .bool b => .bool b
    | .int k m => .int k m
    | .string s => .str (s.data.toList.map UInt8.toNat)
    | .pointer none => .nilptr
    | .slice none 0 0 => .nilslice
    | .map none => .nilmap
    | .nilFunc => .nilfunc
    | .func (.func f) a b => .func f (a.toList.map (ofValue n)) (b.toList.map (ofValue n))
    | .nilIface => .niliface
    | .iface t v => .iface t (ofValue n v)
    | .agg cs => aggOf (cs.toList.map (ofValue n))
    | .tuple vs => .tuple (vs.toList.map (ofValue n))
    | _ => .bad

/-- Values without blocks, as the model's. -/
def AV.toValue : AV → Option Value
  | .int k n => some (.int k n)
  | .bool b => some (.bool b)
  | .str s => some (.string ⟨(s.map UInt8.ofNat).toArray⟩)
  | _ => none

mutual
def AV.beq : AV → AV → Bool
  | .undef, .undef => true
  | .int k n, .int j m => decide (k = j) && decide (n = m)
  | .bool a, .bool b => a == b
  | .str a, .str b => a == b
  | .nilptr, .nilptr => true
  | .ptr b g o e, .ptr b' g' o' e' => b.beq b' && Nat.beq g g' && Nat.beq o o' && Nat.beq e e'
  | .nilslice, .nilslice => true
  | .slice b g o l kc ex sz, .slice b' g' o' l' kc' ex' sz' => b.beq b' && Nat.beq g g' && Nat.beq o o' && Nat.beq l l' && Nat.beq kc kc' && ex == ex' && Nat.beq sz sz'
  | .nilmap, .nilmap => true
  | .map b, .map b' => b.beq b'
  | .iter b, .iter b' => b.beq b'
  | .stamp n, .stamp n' => Nat.beq n n'
  | .niliface, .niliface => true
  | .iface t v, .iface t' v' => Nat.beq t t' && v.beq v'
  | .nilfunc, .nilfunc => true
  | .func f a b, .func f' a' b' => Nat.beq f f' && AV.beqs a a' && AV.beqs b b'
  | .agg a, .agg b => AV.beqs a b
  | .tuple a, .tuple b => AV.beqs a b
  | _, _ => false
def AV.beqs : List AV → List AV → Bool
  | [], [] => true
  | a :: l, b :: m => a.beq b && AV.beqs l m
  | _, _ => false
end

def AV.cells : AV → List AV
  | .agg cs => cs
  | v => [v]
/-- May it be stored: each of its cells holds the value of one. -/
def AV.stores : AV → Bool
  | .agg _ => true
  | v => v.isCell

def splice (vs : List AV) : Nat → List AV → List AV
  | 0, cs => vs ++ cs.drop vs.length
  | n + 1, c :: cs => c :: splice vs n cs
  | _ + 1, [] => []
def repZero (z : List AV) : Nat → List AV
  | 0 => []
  | n + 1 => z ++ repZero z n

/-- Keys: may it be one of a type. -/
def AV.isKey (under : TypeId → Option TypeDesc) (size : TypeId → Option Nat) (t : TypeId) (k : AV) : Bool :=
  match under t, k with
  | some (.int k), .int k' _ => decide (k = k')
  | some .string, .str _ => true
  | some (.array 2 e), .agg [.int .i64 _, .int .i64 _] => match under e, size e with
    | some (.int .i64), some 1 => true
    | _, _ => false
  | _, _ => false
def AV.keq : AV → AV → Option Bool
  | .int k n, .int k' m => if k = k' then some (decide (n = m)) else none
  | .str a, .str b => some (a == b)
  | .agg [.int .i64 n, .int .i64 n'], .agg [.int .i64 m, .int .i64 m'] => some (decide (n = m) && decide (n' = m'))
  | _, _ => none
def natsLt : List Nat → List Nat → Bool
  | _, [] => false
  | [], _ :: _ => true
  | a :: x, b :: y => Nat.blt a b || (Nat.beq a b && natsLt x y)
def AV.klt : AV → AV → Bool
  | .int _ n, .int _ m => decide (n < m)
  | .str a, .str b => natsLt a b
  | .agg [.int _ n, .int _ n'], .agg [.int _ m, .int _ m'] => decide (n < m) || (decide (n = m) && decide (n' < m'))
  | _, _ => false

/-- none: a key that does not fit; some none: not there; some (some v). -/
def mfind (k : AV) : List (AV × AV) → Option (Option AV)
  | [] => some none
  | (k', v) :: l => match k.keq k' with
    | some true => some (some v)
    | some false => mfind k l
    | none => none
def mset (k v : AV) : List (AV × AV) → List (AV × AV)
  | [] => [(k, v)]
  | (k', v') :: l => match k.keq k' with
    | some true => (k', v) :: l
    | _ => match k.klt k' with
      | true => (k, v) :: (k', v') :: l
      | false => (k', v') :: mset k v l
/-- Of a key that is there. -/
def mrep (k v : AV) : List (AV × AV) → List (AV × AV)
  | [] => []
  | (k', v') :: l => match k.keq k' with
    | some true => (k', v) :: l
    | _ => (k', v') :: mrep k v l
def mdel (k : AV) : List (AV × AV) → List (AV × AV)
  | [] => []
  | (k', v') :: l => match k.keq k' with
    | some true => l
    | _ => (k', v') :: mdel k l

inductive R2 where
  | none
  | ok (v : AV) (h : Heap)

end
end Go.AM

/- The operations of the abstract machine: each as a function of its operands and of the heap. -/
namespace Go.AM
noncomputable section
variable (P : Program) (B : Tree ABlk)

/-- The types' rows, as a tree. -/
def typeTree : Tree TypeInfo := Tree.build 0 P.types.toList .leaf
def infoOf (t : TypeId) : Option TypeInfo := (typeTree P).get (Pos.ofNat t)
def underOf (t : TypeId) : Option TypeDesc := match infoOf P t with
  | some i => match i.desc with
    | .named _ u => match infoOf P u with
      | some j => some j.desc
      | none => none
    | d => some d
  | none => none

def sizeOf (t : TypeId) : Option Nat := match infoOf P t with
  | some i => some i.size
  | none => none
def isAgg (t : TypeId) : Option Bool := match underOf P t with
  | some (.struct _) => some true
  | some (.array _ _) => some true
  | some _ => some false
  | none => none
def zeroOf (t : TypeId) : Option AV := match infoOf P t with
  | some i => match i.zero with
    | some v => some (AV.ofValue 6 v)
    | none => none
  | none => none

/-- The block of a number: in the heap, or (what was there when the function began) beneath it. -/
def blk (H : Heap) (b : Pos) : Option ABlk := match H.blks.get b with
  | some x => some x
  | none => B.get b

/-- A heap's parts. -/
def onHeap {α : Type} (H : Heap) (f : Pos → Tree ABlk → Nat → Option (Nat × Pos × AV) → List Pos → α) : α := match H with
  | ⟨next, blks, stamps, last, its⟩ => f next blks stamps last its
def newBlk (b : ABlk) (H : Heap) : Heap := onHeap H fun next blks stamps last its => ⟨next.succ, blks.set next b, stamps, last, its⟩
def setBlk (H : Heap) (p : Pos) (b : ABlk) : Heap := onHeap H fun next blks stamps last its => ⟨next, blks.set p b, stamps, last, its⟩
def newRow (st : Bool) (len : Nat) (cs : List AV) (H : Heap) : Heap := newBlk (.cells st 0 0 len cs) H

def readCells (H : Heap) (b : Pos) (g off n : Nat) : Option (List AV) :=
  match blk B H b with
  | some (.cells _ _ min _ cs) => match Nat.ble min g with
    | true => some ((cs.drop off).take n)
    | false => none
  | _ => none

def writeRow (H : Heap) (b : Pos) (g off : Nat) (vs : List AV) : Option Heap :=
  match blk B H b with
  | some (.cells st cur _ len cs) => match Nat.beq cur g && Nat.ble (off + vs.length) len with
    | true => some (setBlk H b (.cells st cur cur len (splice vs off cs)))
    | false => none
  | _ => none
def writeCells (H : Heap) (b : Pos) (g off : Nat) (vs : List AV) : Option Heap :=
  match vs with
  | [] => some H
  | v :: vs => writeRow B H b g off (v :: vs)

def setMap (H : Heap) (b : Pos) (ver : Nat) (es : List (AV × AV)) : Heap := onHeap H fun next blks stamps _ its => ⟨next, blks.set b (.map ver es), stamps, none, its⟩

def getMap (H : Heap) (b : Pos) (f : Nat → List (AV × AV) → R2) : R2 := match blk B H b with
  | some (.map ver es) => f ver es
  | _ => .none

/-- A Sem program that asks nothing of the world. -/
def pureRun {α : Type} : Sem α → Option α
  | .pure a => some a
  | .program k => pureRun (k P)
  | .mark _ k => pureRun k
  | _ => none

def ground (s : Sem Value) (H : Heap) : R2 :=
  match pureRun P s with
  | some v => .ok (AV.ofValue 6 v) H
  | none => .none

/-- One variable of a type, read. -/
def readVar (t : TypeId) (H : Heap) (b : Pos) (g off ext : Nat) : Option AV :=
  match isAgg P t with
  | some true => match sizeOf P t with
    | some sz => match Nat.ble sz ext with
      | true => match readCells B H b g off sz with
        | some cs => some (.agg cs)
        | none => none
      | false => none
    | none => none
  | some false => match Nat.ble 1 ext with
    | true => match readCells B H b g off 1 with
      | some [c] => some c
      | _ => none
    | false => none
  | none => none

def retn (H : Heap) : Option AV → R2
  | some v => .ok v H
  | none => .none
def retu : Option Heap → R2
  | some H => .ok .undef H
  | none => .none

def doPick (c a b : AV) (H : Heap) : R2 := match c with
  | .bool c => .ok (match c with | true => a | false => b) H
  | _ => .none

def doAlloc (t : TypeId) (H : Heap) : R2 := match zeroOf P t with
  | some z => match z.stores with
    | true => .ok (.ptr H.next 0 0 z.cells.length) (newRow false z.cells.length z.cells H)
    | false => .none
  | none => .none

def doBox (x : AV) (H : Heap) : R2 := match x.stores with
  | true => .ok (.ptr H.next 0 0 x.cells.length) (newRow false x.cells.length x.cells H)
  | false => .none

def fillA (place : Nat → Option (Nat × Nat)) (cells : List AV) : List (Nat × AV) → Option (List AV)
  | [] => some cells
  | (i, v) :: rest => match place i with
    | none => none
    | some (off, size) => match v.stores && Nat.beq v.cells.length size && Nat.ble (off + size) cells.length with
      | true => fillA place (splice v.cells off cells) rest
      | false => none

def fieldSpot (fields : Array Field) (i : Nat) : Option (Nat × Nat) := match fields[i]? with
  | some f => match sizeOf P f.type with
    | some s => some (f.offset, s)
    | none => none
  | none => none

def retAgg (H : Heap) : Option (List AV) → R2
  | some cs => .ok (.agg cs) H
  | none => .none

def sizesOk (fields : Array Field) : Bool := fields.toList.all fun f => (sizeOf P f.type).isSome

def doBuild (t : TypeId) (parts : List (Nat × AV)) (H : Heap) : R2 := match zeroOf P t with
  | some z => match z with
    | .agg zs => match underOf P t with
      | some (.struct fields) => match sizesOk P fields with
        | true => retAgg H (fillA (fieldSpot P fields) zs parts)
        | false => .none
      | some (.array _ elem) => match sizeOf P elem with
        | some sz => retAgg H (fillA (fun i => some (i * sz, sz)) zs parts)
        | none => .none
      | _ => .none
    | _ => .none
  | none => .none

def retSlice (H : Heap) (len sz : Nat) : Option (List AV) → R2
  | some cs => .ok (.slice H.next 0 0 len len true sz) (newRow false (len * sz) cs H)
  | none => .none

def doBuildSlice (t : TypeId) (len : Nat) (parts : List (Nat × AV)) (H : Heap) : R2 := match underOf P t with
  | some (.slice elem) => match sizeOf P elem, zeroOf P elem with
    | some sz, some z => match z.stores && Nat.beq z.cells.length sz && Nat.ble (len * sz) 16777216 && Nat.blt 0 sz with
      | true => retSlice H len sz (fillA (fun i => some (i * sz, sz)) (repZero z.cells len) parts)
      | false => .none
    | _, _ => .none
  | _ => .none

def doLoad (t : TypeId) (a : AV) (H : Heap) : R2 := match a with
  | .ptr b g off ext => retn H (readVar P B t H b g off ext)
  | _ => .none

def doStore (t : TypeId) (a x : AV) (H : Heap) : R2 := match a with
  | .ptr b g off ext => match sizeOf P t with
    | some sz => match x.stores && Nat.beq x.cells.length sz && Nat.ble sz ext with
      | true => retu (writeCells B H b g off x.cells)
      | false => .none
    | none => .none
  | _ => .none

/-- The method's row is the type's own, and the receiver is seen to be no nil pointer: 'nilAhead' says false. -/
def nilAheadA (t : TypeId) (v : AV) (name : String) : Bool :=
  match infoOf P t with
  | some info => match info.methods.find? (·.name == name) with
    | some m => match m.path.isEmpty, m.func with
      | true, some (_, true) => true
      | true, some (_, false) => match underOf P t, v with
        | some (.pointer _), .ptr .. => true
        | some (.pointer _), _ => false
        | some _, _ => true
        | none, _ => false
      | _, _ => false
    | none => false
  | none => false

def doNilCheck (x : AV) (H : Heap) : R2 := match x with
  | .ptr .. => .ok x H
  | .func .. => .ok x H
  | .meth name (.iface t v) => match nilAheadA P t v name with
    | true => .ok x H
    | false => .none
  | .iface .. => .ok x H
  | .slice .. => .ok x H
  | .map .. => .ok x H
  | _ => .none

/-- == of pointers. -/
def ptrEq (H : Heap) (t : TypeId) (b : Pos) (g o : Nat) (b' : Pos) (g' o' : Nat) : Option Bool :=
  match underOf P t with
  | some (.pointer e) => match sizeOf P e with
    | some (_ + 1) => match b.beq b' with
      | false => match blk B H b, blk B H b' with
        | some (.cells false _ min _ _), some (.cells false _ min' _ _) => match Nat.ble min g && Nat.ble min' g' with
          | true => some false
          | false => none
        | _, _ => none
      | true => match Nat.beq g g' with
        | true => some (Nat.beq o o')
        | false => none
    | _ => none
  | _ => none

def doInt (f : IntKind → Int → Int → AV) (x y : AV) (H : Heap) : R2 := match x with
  | .int k a => match y with
    | .int k' b => match decide (k = k') with
      | true => .ok (f k a b) H
      | false => .none
    | _ => .none
  | _ => .none

def groundOp (op : BinOp) (t : TypeId) (x y : AV) (H : Heap) : R2 := match x.toValue, y.toValue with
  | some u, some v => ground P (Go.binOp op t u v) H
  | _, _ => .none

/-- Unknown integers: the same one; the first two are no 1, the next two no 0. -/
def sameStamp (s s' : Nat) : Option Bool := match Nat.beq s s' with
  | true => some true
  | false => none
def farFrom (s : Nat) (k : IntKind) (a : Int) : Option Bool := match decide (k = .i64) && ((Nat.blt s 2 && decide (a = 1)) || (Nat.ble 2 s && Nat.blt s 4 && decide (a = 0))) with
  | true => some false
  | false => none
/-- What comes of two of the first eight: a number of its own. -/
def symIdx : BinOp → Option Nat
  | .add => some 0
  | .sub => some 1
  | .mul => some 2
  | .quo => some 3
  | .rem => some 4
  | _ => none
def symOp (op : BinOp) (s s' : Nat) : Option Nat := match symIdx op with
  | some i => match Nat.blt s 8 && Nat.blt s' 8 && (Nat.blt i 3 || (Nat.ble 2 s' && Nat.blt s' 4)) with
    | true => some (8 + i * 64 + s * 8 + s')
    | false => none
  | none => none
def retSym (H : Heap) : Option Nat → R2
  | some c => .ok (.stamp c) H
  | none => .none
/-- A sum of one of them and a number: nothing is known of it. -/
def lostSym (op : BinOp) (k : IntKind) (H : Heap) : R2 := match k with
  | .i64 => match op with
    | .add => .ok .bad H
    | .sub => .ok .bad H
    | .mul => .ok .bad H
    | _ => .none
  | _ => .none
def doSym (op : BinOp) (x y : AV) (H : Heap) (r : R2) : R2 := match x with
  | .stamp s => match y with
    | .stamp s' => retSym H (symOp op s s')
    | .int k _ => lostSym op k H
    | _ => .none
  | _ => r
/-- Of a type of numbers, texts or bools. -/
def eqTyped (t : TypeId) (x y : AV) : Option Bool := match underOf P t with
  | some (.int _) => match x, y with
    | .int k a, .int k' b => match decide (k = k') with
      | true => some (a == b)
      | false => none
    | .stamp s, .stamp s' => sameStamp s s'
    | .stamp s, .int k a => farFrom s k a
    | .int k a, .stamp s => farFrom s k a
    | _, _ => none
  | some .string => match x, y with
    | .str a, .str b => some (a == b)
    | _, _ => none
  | some .bool => match x, y with
    | .bool a, .bool b => some (a == b)
    | _, _ => none
  | _ => none
def size1 (t : TypeId) : Bool := match sizeOf P t with
  | some n => Nat.beq n 1
  | none => false
/-- A struct's fields, if each is a number, a text or a bool, one cell behind the other. -/
def flatFields : Nat → List Field → Bool
  | _, [] => true
  | i, f :: l => Nat.beq f.offset i && !(f.name == "_") && size1 P f.type && flatFields (i + 1) l
def eqCells : List Field → List AV → List AV → Option Bool
  | [], [], [] => some true
  | f :: fs, a :: l, b :: m => match eqTyped P f.type a b with
    | some true => eqCells fs l m
    | some false => some false
    | none => none
  | _, _, _ => none
def eqAgg (t : TypeId) (xs ys : List AV) : Option Bool := match underOf P t with
  | some (.struct fields) => match flatFields P 0 fields.toList && !(P.stoodInHeld t) && !(P.eqGuardType P.depth t) with
    | true => eqCells P fields.toList xs ys
    | false => none
  | _ => none

/-- Values of one type, equal or not: none: not told. -/
def eqA (H : Heap) (t : TypeId) (x y : AV) : Option Bool := match x, y with
  | .int k a, .int k' b => match decide (k = k') with
    | true => some (a == b)
    | false => none
  | .stamp s, .stamp s' => sameStamp s s'
  | .stamp s, .int k a => farFrom s k a
  | .int k a, .stamp s => farFrom s k a
  | .str a, .str b => some (a == b)
  | .bool a, .bool b => match underOf P t with
    | some .bool => some (a == b)
    | _ => none
  | .agg a, .agg b => eqAgg P t a b
  | .nilptr, y => match underOf P t, y with
    | some (.pointer _), .nilptr => some true
    | some (.pointer _), .ptr .. => some false
    | _, _ => none
  | .ptr b g o _, y => match y with
    | .nilptr => match underOf P t with
      | some (.pointer _) => some false
      | _ => none
    | .ptr b' g' o' _ => ptrEq P B H t b g o b' g' o'
    | _ => none
  | .nilslice, y => match underOf P t, y with
    | some (.slice _), .nilslice => some true
    | some (.slice _), .slice .. => some false
    | _, _ => none
  | .slice .., .nilslice => match underOf P t with
    | some (.slice _) => some false
    | _ => none
  | .nilmap, y => match underOf P t, y with
    | some (.map _ _), .nilmap => some true
    | some (.map _ _), .map _ => some false
    | _, _ => none
  | .map _, .nilmap => match underOf P t with
    | some (.map _ _) => some false
    | _ => none
  | .iface .., .niliface => match underOf P t with
    | some (.interface _) => some false
    | _ => none
  | .niliface, .iface .. => match underOf P t with
    | some (.interface _) => some false
    | _ => none
  | .nilfunc, .func .. => match underOf P t with
    | some (.func _ _ _) => some false
    | _ => none
  | .func .., .nilfunc => match underOf P t with
    | some (.func _ _ _) => some false
    | _ => none
  | _, _ => none

def retb (H : Heap) (f : Bool → Bool) : Option Bool → R2
  | some b => .ok (.bool (f b)) H
  | none => .none

def doAdd (t : TypeId) (x y : AV) (H : Heap) : R2 := match x with
  | .str a => match y with
    | .str b => match Nat.ble (a.length + b.length) 1099511627776 with
      | true => .ok (.str (a ++ b)) H
      | false => .none
    | _ => .none
  | .int .. => doInt (fun k a b => .int k (k.wrap (a + b))) x y H
  | _ => groundOp P .add t x y H

def doBinOp (op : BinOp) (t : TypeId) (x y : AV) (H : Heap) : R2 := match op with
  | .add => doSym .add x y H (doAdd P t x y H)
  | .sub => doSym .sub x y H (doInt (fun k a b => .int k (k.wrap (a - b))) x y H)
  | .mul => doSym .mul x y H (groundOp P .mul t x y H)
  | .quo => doSym .quo x y H (groundOp P .quo t x y H)
  | .rem => doSym .rem x y H (groundOp P .rem t x y H)
  | .eql => retb H (fun b => b) (eqA P B H t x y)
  | .neq => retb H (fun b => !b) (eqA P B H t x y)
  | .lss => match x with
    | .int .. => doInt (fun _ a b => .bool (decide (a < b))) x y H
    | _ => groundOp P .lss t x y H
  | .leq => match x with
    | .int .. => doInt (fun _ a b => .bool (decide (a ≤ b))) x y H
    | _ => groundOp P .leq t x y H
  | .gtr => match x with
    | .int .. => doInt (fun _ a b => .bool (decide (b < a))) x y H
    | _ => groundOp P .gtr t x y H
  | .geq => match x with
    | .int .. => doInt (fun _ a b => .bool (decide (b ≤ a))) x y H
    | _ => groundOp P .geq t x y H
  | op => groundOp P op t x y H

def doUnOp (op : UnOp) (x : AV) (H : Heap) : R2 := match op with
  | .not => match x with
    | .bool b => .ok (.bool (!b)) H
    | _ => .none
  | op => match x.toValue with
    | some u => ground P (Op.unary op u) H
    | none => .none

def asByte : AV → Option Nat
  | .int .u8 (.ofNat n) => match Nat.blt n 256 with
    | true => some n
    | false => none
  | _ => none
def asBytes : List AV → Option (List Nat)
  | [] => some []
  | a :: l => match asByte a with
    | some n => match asBytes l with
      | some ns => some (n :: ns)
      | none => none
    | none => none
def bytesOf (l : List Nat) : List AV := l.map fun n => .int .u8 (Int.ofNat n)
def isU8 (e : TypeId) : Bool := match underOf P e with
  | some (.int .u8) => true
  | _ => false

def doConvInt (d : TypeId) (n : Int) (H : Heap) : R2 := match underOf P d with
  | some (.int k) => .ok (.int k (k.wrap n)) H
  | _ => .none
def doConvStr (d : TypeId) (l : List Nat) (H : Heap) : R2 := match underOf P d with
  | some .string => .ok (.str l) H
  | some (.slice e) => match isU8 P e with
    | true => .ok (.slice H.next 0 0 l.length l.length false 1) (newRow true l.length (bytesOf l) H)
    | false => .none
  | _ => .none
def retStr (H : Heap) : Option (List Nat) → R2
  | some l => .ok (.str l) H
  | none => .none
def doConvBytes (s d : TypeId) (b : Pos) (g off len sz : Nat) (H : Heap) : R2 := match underOf P s, underOf P d with
  | some (.slice e), some .string => match isU8 P e && Nat.beq sz 1 with
    | true => match readCells B H b g off len with
      | some cs => retStr H (asBytes cs)
      | none => .none
    | false => .none
  | _, _ => .none
def doConvert (s d : TypeId) (x : AV) (H : Heap) : R2 := match x with
  | .int _ n => match underOf P s with
    | some (.int _) => doConvInt P d n H
    | _ => .none
  | .str l => match underOf P s with
    | some .string => doConvStr P d l H
    | _ => .none
  | .nilslice => match underOf P s, underOf P d with
    | some (.slice e), some .string => match isU8 P e with
      | true => .ok (.str []) H
      | false => .none
    | _, _ => .none
  | .slice b g off len _ _ sz => doConvBytes P B s d b g off len sz H
  | _ => .none

def doMakeInterface (t : TypeId) (x : AV) (H : Heap) : R2 := match underOf P t with
  | some (.interface _) => .none
  | some _ => .ok (.iface t x) H
  | none => .none

def doMakeFunc (fn : Fn) (first captured : List AV) (H : Heap) : R2 := match fn with
  | .func f => .ok (.func f first captured) H
  | .method name => match first, captured with
    | [x], [] => .ok (.meth name x) H
    | _, _ => .none
  | _ => .none

/-- A new map, or a new iterator. -/
def newObj (b : ABlk) (H : Heap) : Heap := onHeap H fun next blks stamps _ its => ⟨next.succ, blks.set next b, stamps, none, its⟩
def doMakeMap (t : TypeId) (r : Option AV) (H : Heap) : R2 := match r with
  | none => .ok (.map H.next) (newObj (.map 0 []) H)
  | some (.int _ _) => match underOf P t with
    | some (.map _ _) => .ok (.map H.next) (newObj (.map 0 []) H)
    | _ => .none
  | _ => .none

def doMakeSlice (t : TypeId) (l c : AV) (H : Heap) : R2 := match l, c with
  | .int _ (.ofNat l), .int _ (.ofNat c) => match underOf P t with
    | some (.slice elem) => match infoOf P elem, zeroOf P elem with
      | some info, some z => match Nat.ble l c && Nat.blt c 1099511627776 && Nat.ble (c * info.bytes) 140737488355328 && z.stores && Nat.beq z.cells.length info.size && Nat.blt 0 info.size with
        | true => .ok (.slice H.next 0 0 l c true info.size) (newRow false (c * info.size) (repZero z.cells c) H)
        | false => .none
      | _, _ => .none
    | _ => .none
  | _, _ => .none

def bound (x : Option AV) (d : Nat) : Option Nat := match x with
  | none => some d
  | some (.int _ (.ofNat n)) => some n
  | some _ => none

def sliceStr (t : TypeId) (s : List Nat) (lo hi mx : Option AV) (H : Heap) : R2 := match underOf P t, mx with
  | some .string, none => match bound lo 0, bound hi s.length with
    | some l, some h => match Nat.ble l h && Nat.ble h s.length with
      | true => .ok (.str ((s.drop l).take (h - l))) H
      | false => .none
    | _, _ => .none
  | _, _ => .none

def sliceNil (t : TypeId) (lo hi mx : Option AV) (H : Heap) : R2 := match underOf P t, bound lo 0, bound hi 0, bound mx 0 with
  | some (.slice elem), some 0, some 0, some 0 => match hi, mx, sizeOf P elem with
    | none, some _, _ => .none
    | _, _, some _ => .ok .nilslice H
    | _, _, none => .none
  | _, _, _, _ => .none

/-- A slice's slice: its highest bound lies within what is known of the block. -/
def roomOk (H : Heap) (b : Pos) (g off len sz h : Nat) : Bool := match Nat.ble h len with
  | true => true
  | false => match blk B H b with
    | some (.cells _ cur _ blen _) => Nat.beq cur g && Nat.ble (off + h * sz) blen
    | _ => false

def sliceSlice (t : TypeId) (b : Pos) (g off len kc : Nat) (ex : Bool) (sz : Nat) (lo hi mx : Option AV) (H : Heap) : R2 := match underOf P t with
  | some (.slice elem) => match sizeOf P elem with
    | some sz' => match Nat.beq sz sz' with
      | true => match bound lo 0, bound hi len, mx with
        | some l, some h, none => match Nat.ble l h && Nat.ble h kc && roomOk B H b g off len sz h with
          | true => .ok (.slice b g (off + l * sz) (h - l) (kc - l) ex sz) H
          | false => .none
        | some l, some h, some mx => match bound (some mx) 0, hi with
          | some m, some _ => match Nat.ble l h && Nat.ble h m && Nat.ble m kc && roomOk B H b g off len sz h with
            | true => .ok (.slice b g (off + l * sz) (h - l) (m - l) true sz) H
            | false => .none
          | _, _ => .none
        | _, _, _ => .none
      | false => .none
    | none => .none
  | _ => .none

def sliceArr (arr : TypeId) (b : Pos) (g off ext : Nat) (lo hi mx : Option AV) (H : Heap) : R2 := match underOf P arr, mx with
  | some (.array n elem), none => match sizeOf P elem with
    | some sz => match bound lo 0, bound hi n with
      | some l, some h => match Nat.ble l h && Nat.ble h n && Nat.ble (n * sz) ext with
        | true => .ok (.slice b g (off + l * sz) (h - l) (n - l) true sz) H
        | false => .none
      | _, _ => .none
    | none => .none
  | _, _ => .none

def doSlice (t : TypeId) (x : AV) (lo hi mx : Option AV) (H : Heap) : R2 := match x with
  | .str s => sliceStr P t s lo hi mx H
  | .nilslice => sliceNil P t lo hi mx H
  | .slice b g off len kc ex sz => sliceSlice P B t b g off len kc ex sz lo hi mx H
  | .ptr b g off ext => match underOf P t with
    | some (.pointer arr) => sliceArr P arr b g off ext lo hi mx H
    | some (.array _ _) => sliceArr P t b g off ext lo hi mx H
    | _ => .none
  | _ => .none

def doFieldAddr (s : TypeId) (x : AV) (f : Nat) (H : Heap) : R2 := match x with
  | .ptr b g off ext => match underOf P s with
    | some (.struct fields) => match fieldSpot P fields f with
      | some (o, _ + 1) => match Nat.ble o ext with
        | true => .ok (.ptr b g (off + o) (ext - o)) H
        | false => .none
      | _ => .none
    | _ => .none
  | _ => .none

/-- A part of an aggregate. -/
def partA (t : TypeId) (cs : List AV) (off : Nat) : Option AV := match isAgg P t with
  | some true => match sizeOf P t with
    | some sz => some (.agg ((cs.drop off).take sz))
    | none => none
  | some false => cs[off]?
  | none => none

def doField (t : TypeId) (x : AV) (f : Nat) (H : Heap) : R2 := match x with
  | .agg cs => match underOf P t with
    | some (.struct fields) => match fields[f]? with
      | some fd => retn H (partA P fd.type cs fd.offset)
      | none => .none
    | _ => .none
  | _ => .none

def indexSlice (t : TypeId) (n : Nat) (b : Pos) (g off len sz : Nat) (H : Heap) : R2 := match underOf P t with
  | some (.slice elem) => match sizeOf P elem with
    | some sz' => match Nat.beq sz sz' && Nat.blt n len with
      | true => .ok (.ptr b g (off + n * sz) ((len - n) * sz)) H
      | false => .none
    | none => .none
  | _ => .none
def indexArr (t : TypeId) (n : Nat) (b : Pos) (g off ext : Nat) (H : Heap) : R2 := match underOf P t with
  | some (.array len elem) => match sizeOf P elem with
    | some sz => match Nat.blt n len && Nat.ble (n * sz) ext with
      | true => .ok (.ptr b g (off + n * sz) (ext - n * sz)) H
      | false => .none
    | none => .none
  | _ => .none
def doIndexAddr (t : TypeId) (x i : AV) (H : Heap) : R2 := match i with
  | .int _ (.ofNat n) => match x with
    | .slice b g off len _ _ sz => indexSlice P t n b g off len sz H
    | .ptr b g off ext => indexArr P t n b g off ext H
    | _ => .none
  | _ => .none

def doIndex (t : TypeId) (x i : AV) (H : Heap) : R2 := match i with
  | .int _ (.ofNat n) => match x with
    | .agg cs => match underOf P t with
      | some (.array len elem) => match sizeOf P elem, Nat.blt n len with
        | some sz, true => retn H (partA P elem cs (n * sz))
        | _, _ => .none
      | _ => .none
    | .str s => match underOf P t, s[n]? with
      | some .string, some c => .ok (.int .u8 (Int.ofNat c)) H
      | _, _ => .none
    | _ => .none
  | _ => .none

def commaOk (ok : Bool) (v : AV) (b : Bool) : AV := match ok with
  | true => .tuple [v, .bool b]
  | false => v

def mapKey (t : TypeId) (k : AV) : Bool := match underOf P t with
  | some (.map key _) => k.isKey (underOf P) (sizeOf P) key
  | _ => false
def mapZero (t : TypeId) : Option AV := match underOf P t with
  | some (.map _ elem) => zeroOf P elem
  | _ => none

def lookIn (H : Heap) (ok : Bool) (z : AV) : Option (Option AV) → R2
  | some (some v) => .ok (commaOk ok v true) H
  | some none => .ok (commaOk ok z false) H
  | none => .none
def doLookup (t : TypeId) (m k : AV) (ok : Bool) (H : Heap) : R2 := match mapKey P t k with
  | true => match mapZero P t with
    | some z => match m with
      | .nilmap => .ok (commaOk ok z false) H
      | .map b => getMap B H b fun _ es => lookIn H ok z (mfind k es)
      | _ => .none
    | none => .none
  | false => .none

def doMapUpdate (t : TypeId) (m k x : AV) (H : Heap) : R2 := match mapKey P t k with
  | true => match m with
    | .map b => getMap B H b fun ver es => match mfind k es with
      | some (some _) => .ok .undef (setMap H b (ver + 1) (mrep k x es))
      | some none => .ok .undef (setMap H b (ver + 1) (mset k x es))
      | none => .none
    | _ => .none
  | false => .none

def entryAt (H : Heap) (b : Pos) (k : AV) : Heap := onHeap H fun next blks stamps _ its => ⟨next, blks, stamps + 1, some (stamps, b, k), its⟩
def doMapEntry (t : TypeId) (m k : AV) (H : Heap) : R2 := match Nat.ble 400 H.stamps with
 | false => .none
 | true => match mapKey P t k with
  | true => match mapZero P t with
    | some z => match m with
      | .map b => getMap B H b fun ver es => match mfind k es with
        | some (some v) => .ok (.tuple [v, .stamp H.stamps]) (entryAt H b k)
        | some none => .ok (.tuple [z, .stamp H.stamps]) (entryAt (setMap H b (ver + 1) (mset k z es)) b k)
        | none => .none
      | _ => .none
    | none => .none
  | false => .none

def sameEntry (n : Nat) (b : Pos) : Option (Nat × Pos × AV) → Option AV
  | some (n', b', k) => match Nat.beq n n' && b.beq b' with
    | true => some k
    | false => none
  | none => none
def doEntryStore (m s x : AV) (H : Heap) : R2 := match m, s with
  | .map b, .stamp n => match sameEntry n b H.last with
    | some k => getMap B H b fun ver es => match mfind k es with
      | some (some _) => .ok .undef (setMap H b (ver + 1) (mrep k x es))
      | _ => .none
    | none => .none
  | _, _ => .none

def newIter (m : Option Pos) (ver : Nat) (es : List (AV × AV)) (H : Heap) : R2 :=
  .ok (.iter H.next) (onHeap H fun next blks stamps _ its => ⟨next.succ, blks.set next (.iter m ver es none), stamps, none, next :: its⟩)
def doRange (t : TypeId) (x : AV) (H : Heap) : R2 := match underOf P t with
  | some (.map _ _) => match x with
    | .nilmap => newIter none 0 [] H
    | .map b => getMap B H b fun ver es => newIter (some b) ver es H
    | _ => .none
  | _ => .none

def doEntry (it : AV) (H : Heap) : R2 := match it with
  | .iter b => match blk B H b with
    | some (.iter (some m) ver _ (some k)) => getMap B H m fun ver' es => match Nat.beq ver ver' with
      | true => match mfind k es with
        | some (some v) => .ok (.tuple [k, v]) H
        | _ => .none
      | false => .none
    | _ => .none
  | _ => .none

def doTypeAssert (asserted : TypeId) (ok : Bool) (x : AV) (H : Heap) : R2 := match x with
  | .iface t v => match underOf P asserted with
    | some (.interface _) => .none
    | some _ => match Nat.beq t asserted with
      | true => .ok (commaOk ok v true) H
      | false => .none
    | none => .none
  | _ => .none

def doExtract (x : AV) (i : Nat) (H : Heap) : R2 := match x with
  | .tuple vs => retn H vs[i]?
  | _ => .none

-- builtins

def srcLen : AV → Option Nat
  | .nilslice => some 0
  | .slice _ _ _ len _ _ _ => some len
  | .str s => some s.length
  | _ => none
def srcCells (H : Heap) (sz : Nat) : AV → Option (List AV)
  | .nilslice => some []
  | .slice b g off len _ _ sz' => match Nat.beq sz sz' with
    | true => readCells B H b g off (len * sz)
    | false => none
  | .str s => match Nat.beq sz 1 with
    | true => some (bytesOf s)
    | false => none
  | _ => none

/-- What is appended: how many elements, and their cells. -/
def newOnes (xt : TypeId) (info : TypeInfo) (x : AV) (H : Heap) : Option (Nat × List AV) := match underOf P xt with
  | some (.int _) => match x, info.zero with
    | .int _ (.ofNat n), some z => match Nat.blt n 1099511627776 && Nat.ble (n * info.bytes) 140737488355328 && (AV.ofValue 6 z).stores && Nat.beq (AV.ofValue 6 z).cells.length info.size with
      | true => some (n, repZero (AV.ofValue 6 z).cells n)
      | false => none
    | _, _ => none
  | some _ => match srcLen x, srcCells B H info.size x with
    | some n, some cs => some (n, cs)
    | _, _ => none
  | none => none

def roomFor (need bytes : Nat) : Bool := Nat.ble ((2 * need + 1000) * bytes) 140737488355328 && Nat.blt need 1099511627776

def appendMore (b : Pos) (g off len : Nat) (ex : Bool) (sz n : Nat) (cs : List AV) (H : Heap) : R2 := match ex with
  | true => match readCells B H b g off (len * sz) with
    | some old => .ok (.slice H.next 0 0 (len + n) (len + n) false sz) (newRow false ((len + n) * sz) (old ++ cs) H)
    | none => .none
  | false => match blk B H b with
    | some (.cells st cur min blen bcs) => match Nat.beq cur g && Nat.beq off 0 && Nat.beq (len * sz) blen with
      | true => .ok (.slice b (g + 1) 0 (len + n) (len + n) false sz) (setBlk H b (.cells st (cur + 1) min (blen + n * sz) (bcs ++ cs)))
      | false => .none
    | _ => .none

def retSame (b : Pos) (g off need kc : Nat) (ex : Bool) (sz : Nat) : Option Heap → R2
  | some H => .ok (.slice b g off need kc ex sz) H
  | none => .none

def appendTo (info : TypeInfo) (s : AV) (n : Nat) (cs : List AV) (H : Heap) : R2 := match s with
  | .nilslice => match n with
    | 0 => .ok .nilslice H
    | n + 1 => match roomFor (n + 1) info.bytes with
      | true => .ok (.slice H.next 0 0 (n + 1) (n + 1) false info.size) (newRow false ((n + 1) * info.size) cs H)
      | false => .none
  | .slice b g off len kc ex sz => match Nat.beq sz info.size with
    | true => match Nat.ble (len + n) kc with
      | true => match roomOk B H b g off len sz (len + n) with
        | true => retSame b g off (len + n) kc ex sz (writeCells B H b g (off + len * sz) cs)
        | false => .none
      | false => match roomFor (len + n) info.bytes with
        | true => appendMore B b g off len ex sz n cs H
        | false => .none
    | false => .none
  | _ => .none

def doAppend (st xt : TypeId) (s x : AV) (H : Heap) : R2 := match underOf P st with
  | some (.slice elem) => match infoOf P elem with
    | some info => match Nat.blt 0 info.size, info.zero, newOnes P B xt info x H with
      | true, some z, some (n, cs) => match (AV.ofValue 6 z).stores && Nat.beq (AV.ofValue 6 z).cells.length info.size with
        | true => appendTo B info s n cs H
        | false => .none
      | _, _, _ => .none
    | none => .none
  | _ => .none

def lenByType (t : TypeId) (H : Heap) : R2 := match underOf P t with
  | some (.array n _) => .ok (.int .i64 (Int.ofNat n)) H
  | some (.pointer arr) => match underOf P arr with
    | some (.array n _) => .ok (.int .i64 (Int.ofNat n)) H
    | _ => .none
  | _ => .none
def doLen (t : TypeId) (x : AV) (H : Heap) : R2 := match x with
  | .str s => match underOf P t with
    | some .string => .ok (.int .i64 (Int.ofNat s.length)) H
    | _ => .none
  | .nilslice => match underOf P t with
    | some (.slice _) => .ok (.int .i64 (Int.ofNat 0)) H
    | _ => .none
  | .nilmap => match underOf P t with
    | some (.map _ _) => .ok (.int .i64 (Int.ofNat 0)) H
    | _ => .none
  | .slice _ _ _ len _ _ _ => match underOf P t with
    | some (.slice _) => .ok (.int .i64 (Int.ofNat len)) H
    | _ => .none
  | .map b => match underOf P t with
    | some (.map _ _) => getMap B H b fun _ es => .ok (.int .i64 (Int.ofNat es.length)) H
    | _ => .none
  | _ => lenByType P t H

def doCap (t : TypeId) (x : AV) (H : Heap) : R2 := match underOf P t, x with
  | some (.slice _), .nilslice => .ok (.int .i64 (Int.ofNat 0)) H
  | some (.slice _), .slice _ _ _ _ kc true _ => .ok (.int .i64 (Int.ofNat kc)) H
  | _, _ => .none

def retInt (n : Nat) : Option Heap → R2
  | some H => .ok (.int .i64 (Int.ofNat n)) H
  | none => .none
def doCopy (t : TypeId) (d s : AV) (H : Heap) : R2 := match underOf P t with
  | some (.slice elem) => match sizeOf P elem with
    | some sz => match srcLen s, srcCells B H sz s with
      | some n, some cs => match d with
        | .nilslice => .ok (.int .i64 (Int.ofNat 0)) H
        | .slice b g off m _ _ sz' => match Nat.beq sz sz' with
          | true => retInt (Nat.min n m) (writeCells B H b g off (cs.take (Nat.min n m * sz)))
          | false => .none
        | _ => .none
      | _, _ => .none
    | none => .none
  | _ => .none

def retNothing : Option Heap → R2
  | some H => .ok (.tuple []) H
  | none => .none
def doClear (t : TypeId) (x : AV) (H : Heap) : R2 := match underOf P t with
  | some (.slice elem) => match x with
    | .nilslice => .ok (.tuple []) H
    | .slice b g off len _ _ sz => match zeroOf P elem with
      | some z => match z.stores && Nat.beq z.cells.length sz with
        | true => retNothing (writeCells B H b g off (repZero z.cells len))
        | false => .none
      | none => .none
    | _ => .none
  | _ => .none

def doDelete (t : TypeId) (m k : AV) (H : Heap) : R2 := match mapKey P t k with
  | true => match m with
    | .map b => getMap B H b fun ver es => match mfind k es with
      | some (some _) => .ok (.tuple []) (setMap H b (ver + 1) (mdel k es))
      | some none => .ok (.tuple []) H
      | none => .none
    | _ => .none
  | false => .none

def min2 (x y : AV) : Option AV := match x, y with
  | .int k a, .int _ b => some (.int k (if b < a then b else a))
  | _, _ => none
def max2 (x y : AV) : Option AV := match x, y with
  | .int k a, .int _ b => some (.int k (if b > a then b else a))
  | _, _ => none
def foldA (f : AV → AV → Option AV) : AV → List AV → Option AV
  | x, [] => some x
  | x, y :: l => match f x y with
    | some z => foldA f z l
    | none => none
def doMinMax (f : AV → AV → Option AV) (args : List AV) (H : Heap) : R2 := match args with
  | x :: l => retn H (foldA f x l)
  | [] => .none

def args1 (args : List AV) (f : AV → R2) : R2 := match args with
  | [x] => f x
  | _ => .none
def args2 (args : List AV) (f : AV → AV → R2) : R2 := match args with
  | [x, y] => f x y
  | _ => .none
def type0 (ts : Array TypeId) (f : TypeId → R2) : R2 := match ts[0]? with
  | some t => f t
  | none => .none
def type1 (ts : Array TypeId) (f : TypeId → R2) : R2 := match ts[1]? with
  | some t => f t
  | none => .none

def doBuiltin (bi : Builtin) (ts : Array TypeId) (args : List AV) (H : Heap) : R2 := match bi with
  | .append => type0 ts fun t => type1 ts fun u => args2 args fun s x => doAppend P B t u s x H
  | .len => type0 ts fun t => args1 args fun x => doLen P B t x H
  | .cap => type0 ts fun t => args1 args fun x => doCap P t x H
  | .copy => type0 ts fun t => args2 args fun d s => doCopy P B t d s H
  | .clear => type0 ts fun t => args1 args fun x => doClear P B t x H
  | .delete => type0 ts fun t => args2 args fun m k => doDelete P B t m k H
  | .min => doMinMax min2 args H
  | .max => doMinMax max2 args H
  | _ => .none

/-- Every operation but calls, and the next of an iterator. -/
def simple (o : Op) (ρ : Operand → AV) (H : Heap) : R2 := match o with
  | .move x => .ok (ρ x) H
  | .assign x => .ok (ρ x) H
  | .pick c a b => doPick (ρ c) (ρ a) (ρ b) H
  | .alloc t => doAlloc P t H
  | .box _ x => doBox (ρ x) H
  | .build t parts => doBuild P t (parts.toList.map fun (i, x) => (i, ρ x)) H
  | .buildSlice t len parts => doBuildSlice P t len (parts.toList.map fun (i, x) => (i, ρ x)) H
  | .insert t m k x => doMapUpdate P B t (ρ m) (ρ k) (ρ x) H
  | .load t a => doLoad P B t (ρ a) H
  | .store t a x => doStore P B t (ρ a) (ρ x) H
  | .nilCheck x => doNilCheck P (ρ x) H
  | .binOp op t x y _ => doBinOp P B op t (ρ x) (ρ y) H
  | .unOp op _ x => doUnOp P op (ρ x) H
  | .convert s d x => doConvert P B s d (ρ x) H
  | .makeInterface t x => doMakeInterface P t (ρ x) H
  | .makeFunc fn first captured => doMakeFunc fn (first.toList.map ρ) (captured.toList.map ρ) H
  | .makeMap t r => doMakeMap P t (r.map ρ) H
  | .makeSlice t l c => doMakeSlice P t (ρ l) (ρ c) H
  | .slice t x lo hi mx => doSlice P B t (ρ x) (lo.map ρ) (hi.map ρ) (mx.map ρ) H
  | .fieldAddr s x f => doFieldAddr P s (ρ x) f H
  | .field t x f => doField P t (ρ x) f H
  | .indexAddr t x i => doIndexAddr P t (ρ x) (ρ i) H
  | .index t x i => doIndex P t (ρ x) (ρ i) H
  | .lookup t m k ok => doLookup P B t (ρ m) (ρ k) ok H
  | .mapUpdate t m k x => doMapUpdate P B t (ρ m) (ρ k) (ρ x) H
  | .mapEntry t m k => doMapEntry P B t (ρ m) (ρ k) H
  | .entryStore _ m s x => doEntryStore B (ρ m) (ρ s) (ρ x) H
  | .range t x => doRange P B t (ρ x) H
  | .entry it => doEntry B (ρ it) H
  | .typeAssert x _ asserted ok => doTypeAssert P asserted ok (ρ x) H
  | .extract x i => doExtract (ρ x) i H
  | .call c => match c.callee with
    | .builtin b => doBuiltin P B b c.argTypes (c.args.toList.map ρ) H
    | _ => .none
  | _ => .none

end
end Go.AM

/- The abstract machine: regions (with an order of their own where the machine draws one), code, calls. -/
namespace Go.AM
noncomputable section

abbrev Res := Option (AV × Heap)

/-- What two heaps have in common: where they differ nothing is known any more. -/
def ABlk.meet : ABlk → ABlk → ABlk
  | .cells st a b c l, .cells st' a' b' c' l' => match st == st' && Nat.beq a a' && Nat.ble b a && Nat.ble b' a && Nat.beq c c' && AV.beqs l l' with
    | true => .cells st a (Nat.max b b') c l
    | false => .dead
  | .map v es, .map v' es' => match Nat.beq v v' && AV.beqs (es.map (·.1)) (es'.map (·.1)) && AV.beqs (es.map (·.2)) (es'.map (·.2)) with
    | true => .map v es
    | false => .dead
  | _, _ => .dead
/-- What one heap has and the other has not: nothing is known of it. -/
def Tree.kill : Tree ABlk → Tree ABlk
  | .leaf => .leaf
  | .node l v r => .node l.kill (match v with | some _ => some .dead | none => none) r.kill
def meetAt : Option ABlk → Option ABlk → Option ABlk
  | some a, some b => some (a.meet b)
  | none, none => none
  | _, _ => some .dead
def Tree.meet : Tree ABlk → Tree ABlk → Tree ABlk
  | .node l v r, .node l' v' r' => .node (l.meet l') (meetAt v v') (r.meet r')
  | .leaf, t => t.kill
  | .node l v r, .leaf => Tree.kill (.node l v r)
def meet : Res → Res → Res
  | some (v, h), some (v', h') => match v.beq v' && Nat.beq h.stamps h'.stamps with
    | true => some (v, onHeap h fun next blks stamps _ its => ⟨Pos.max next h'.next, blks.meet h'.blks, stamps, none, its⟩)
    | false => none
  | _, _ => none
def agree : List Res → Res
  | [] => none
  | [r] => r
  | r :: l => meet r (agree l)

inductive Ex where
  | normal
  | exit (id : Nat)
  | ret

/-- Each of a list, with what is left without it. -/
def picks : List (AV × AV) → List (AV × AV) → List ((AV × AV) × List (AV × AV))
  | _, [] => []
  | pre, e :: post => (e, pre.reverse ++ post) :: picks (e :: pre) post

variable (P : Program) (B : Tree ABlk)

def opd (R : Tree AV) (x : Operand) : AV := match x with
  | .tmp t => match R.get (Pos.ofNat t) with
    | some v => v
    | none => .undef
  | .const v => AV.ofValue 6 v
  | .func f => .func f [] []
  | .global _ => .bad

def put (R : Tree AV) (d : Option Tmp) (v : AV) : Tree AV := match d with
  | some d => R.set (Pos.ofNat d) v
  | none => R

def wantedBy (want : Bool) (v : AV) : Option Bool := match v with
  | .bool b => some (match want with | true => b | false => !b)
  | .bad => none
  | _ => some false
/-- none: it cannot be told. -/
def isWanted (ops : Array Oper) (R : Tree AV) (o : Oper) : Option Bool := match o.guard with
  | none => some true
  | some (j, want) => match ops[j]? with
    | some g => match g.dst with
      | some d => wantedBy want (opd R (.tmp d))
      | none => none
    | none => none

def recvOf (t : TypeId) (v : AV) (ptrRecv : Bool) (H : Heap) : Option AV :=
  match underOf P t, ptrRecv with
  | some (.pointer _), true => some v
  | some (.pointer e), false => match v with
    | .ptr b g off ext => readVar P B e H b g off ext
    | _ => none
  | some _, false => some v
  | _, _ => none

def methodOf (t : TypeId) (name : String) : Option (FuncId × Bool) :=
  match infoOf P t with
  | some info => match info.methods.find? (·.name == name) with
    | some m => match m.path.isEmpty with
      | true => m.func
      | false => none
    | none => none
  | none => none

section
variable (callF : Tree ABlk → FuncId → List AV → Heap → Res)

def callV (f : AV) (args : List AV) (H : Heap) : Res := match f with
  | .func f first cap => callF B f (first ++ args ++ cap) H
  | _ => none
def callM (r : AV) (name : String) (args : List AV) (H : Heap) : Res := match r with
  | .iface t v => match methodOf P t name with
    | some (f, pr) => match recvOf P B t v pr H with
      | some rv => callF B f (rv :: args) H
      | none => none
    | none => none
  | _ => none

def toRes : R2 → Res
  | .ok v H => some (v, H)
  | .none => none

/-- Every operation but the next of an iterator. -/
def evOp1 (o : Op) (ρ : Operand → AV) (H : Heap) : Res := match o with
  | .call c => match c.callee with
    | .value f => callV B callF (ρ f) (c.args.toList.map ρ) H
    | .invoke r name => callM P B callF (ρ r) name (c.args.toList.map ρ) H
    | .builtin b => toRes (doBuiltin P B b c.argTypes (c.args.toList.map ρ) H)
  | o => toRes (simple P B o ρ H)

def nextOf (it : AV) (H : Heap) (K : AV → Heap → Res) : Res := match it with
  | .iter b => match blk B H b with
    | some (.iter m ver left _) => match m with
      | none => K (.tuple [.bool false]) H
      | some mb => match blk B H mb with
        | some (.map ver' _) => match Nat.beq ver ver' with
          | true => match left with
            | [] => K (.tuple [.bool false]) H
            | x :: l => agree ((picks [] (x :: l)).map fun x => K (.tuple [.bool true, x.1.1, x.1.2]) (setBlk H b (.iter m ver x.2 (some x.1.1))))
          | false => none
        | _ => none
    | _ => none
  | _ => none

def bindRes (r : Res) (K : AV → Heap → Res) : Res := match r with
  | some (v, H) => K v H
  | none => none

def evWanted (o : Op) (R : Tree AV) (H : Heap) (K : AV → Heap → Res) : Res := match o with
  | .next it false => nextOf B (opd R it) H K
  | o => bindRes (evOp1 P B callF o (opd R) H) K

def evOp (ops : Array Oper) (o : Oper) (R : Tree AV) (H : Heap) (K : AV → Heap → Res) : Res :=
  match isWanted ops R o with
  | some true => evWanted P B callF o.op R H K
  | some false => K .undef H
  | none => none

/-- Pure: what comes of it hangs on its operands alone. -/
def isPure : Op → Bool
  | .move _ | .pick .. | .build .. | .makeInterface .. | .makeFunc .. | .fieldAddr .. | .field .. | .indexAddr .. | .index .. | .extract .. | .unOp .. | .nilCheck _ => true
  | .binOp op .. => match op with
    | .eql | .neq => false
    | _ => true
  | .call c => match c.callee with
    | .builtin .min => true
    | .builtin .max => true
    | _ => false
  | _ => false
/-- It reads. -/
def isRead : Op → Bool
  | .load .. | .lookup .. | .slice .. | .convert .. => true
  | .binOp .. => true
  | .call c => match c.callee with
    | .builtin .len => true
    | _ => false
  | _ => false
/-- It makes one block, out of its operands alone. -/
def isFresh : Op → Bool
  | .alloc _ | .box .. | .buildSlice .. | .makeMap .. | .makeSlice .. => true
  | _ => false
def isFloat (o : Op) : Bool := isPure o || isRead o || isFresh o

/-- An operation that is in no chain: of conversions, those of numbers. -/
def floatOp (o : Op) (ρ : Operand → AV) (H : Heap) : R2 := match o with
  | .convert s d x => match ρ x with
    | .int k n => doConvert P B s d (.int k n) H
    | _ => .none
  | o => simple P B o ρ H

/-- A step of a region that draws its order: which operation, and (of those that are in no chain) how many of the chain's it may come behind. -/
structure PStep where
  idx : Nat
  op : Oper
  chain : Bool
  keep : Nat

def bit (m i : Nat) : Bool := Nat.beq (Nat.land (Nat.shiftRight m i) 1) 1
def within (a m : Nat) : Bool := Nat.beq (Nat.land a m) a

def allF {α : Type} (p : α → Bool) (l : List α) : Bool := List.rec true (fun x _ ih => Bool.rec false ih (p x)) l

/-- A row of a table of bits. -/
def rowOf (n M j : Nat) : Nat := Nat.land (Nat.shiftRight M (Nat.mul n j)) (Nat.sub (Nat.pow 2 n) 1)
/-- Who is ahead of one, by its edges and by what is known of those. -/
def edgeMask (n M : Nat) (l : List Edge) : Nat := List.rec 0 (fun e _ ih => Bool.rec ih (Nat.lor ih (Nat.lor (Nat.pow 2 e.on) (rowOf n M e.on))) (Region.binds .any e)) l
def rowsGo (n : Nat) (l : List Oper) : Nat → Nat → Nat := List.rec (motive := fun _ => Nat → Nat → Nat) (fun _ M => M)
  (fun o _ ih j M => ih (Nat.succ j) (Nat.lor M (Nat.shiftLeft (edgeMask n M o.after.toList) (Nat.mul n j)))) l
def rowsOf (ops : Array Oper) : Nat := rowsGo ops.size ops.toList 0 0
/-- Is the one ahead of the other, in every order. -/
def preOf (ops : Array Oper) (i j : Nat) : Bool := bit (rowOf ops.size (rowsOf ops) j) i
def isChain (ops : Array Oper) (i : Nat) : Bool := match ops[i]? with
  | some o => !(isFloat o.op)
  | none => true
def dstOf (ops : Array Oper) (i : Nat) : Option Nat := match ops[i]? with
  | some o => o.dst
  | none => none
def chainGo (l : List Oper) : Nat → Nat := List.rec (motive := fun _ => Nat → Nat) (fun _ => 0)
  (fun o _ ih j => Bool.rec (Nat.lor (Nat.pow 2 j) (ih (Nat.succ j))) (ih (Nat.succ j)) (isFloat o.op)) l
def chainOf (ops : Array Oper) : Nat := chainGo ops.toList 0

/-- Slots that an operation looks at. -/
def looks (ops : Array Oper) (o : Oper) : List Nat :=
  (o.op.operands.toList.filterMap fun | .tmp t => some t | _ => none) ++ (match o.guard with
    | none => []
    | some (j, _) => match dstOf ops j with
      | some d => [d]
      | none => [])
def looksOf (ops : Array Oper) (i : Nat) : List Nat := match ops[i]? with
  | some o => looks ops o
  | none => []

/-- An order: what is in no chain as early as may be. -/
def itemsGo (n M C : Nat) (l : List Oper) : Nat → List (Nat × Nat × Bool) := List.rec (motive := fun _ => Nat → List (Nat × Nat × Bool)) (fun _ => [])
  (fun _ _ ih j => (j, rowOf n M j, bit C j) :: ih (Nat.succ j)) l
def firstReady (want : Bool) (mask : Nat) (l : List (Nat × Nat × Bool)) : Option Nat := List.rec none
  (fun x _ ih => Prod.rec (fun i y => Prod.rec (fun row c => Bool.rec (Bool.rec ih (Bool.rec (Bool.rec (some i) ih want) (Bool.rec ih (some i) want) c) (within row mask)) ih (bit mask i)) y) x) l
def orderGo (l : List (Nat × Nat × Bool)) (n : Nat) : Nat → List Nat := Nat.rec (motive := fun _ => Nat → List Nat) (fun _ => [])
  (fun _ ih mask => Option.rec (Option.rec [] (fun i => i :: ih (Nat.lor mask (Nat.pow 2 i))) (firstReady true mask l)) (fun i => i :: ih (Nat.lor mask (Nat.pow 2 i))) (firstReady false mask l)) n
def orderOf (ops : Array Oper) : List Nat := orderGo (itemsGo ops.size (rowsOf ops) (chainOf ops) ops.toList 0) ops.size 0

def chainsIn (C : Nat) (l : List Nat) : List Nat := List.rec [] (fun i _ ih => Bool.rec ih (i :: ih) (bit C i)) l
def tillPre (n M i : Nat) (l : List Nat) : Nat := List.rec 0 (fun y _ ih => Bool.rec (Nat.succ ih) 0 (bit (rowOf n M y) i)) l
def keepOf (ops : Array Oper) (order : List Nat) (i : Nat) : Nat := tillPre ops.size (rowsOf ops) i (chainsIn (chainOf ops) order)
def stepOf (ops : Array Oper) (order : List Nat) (i : Nat) : Option PStep := match ops[i]? with
  | some o => some { idx := i, op := o, chain := !(isFloat o.op), keep := keepOf ops order i }
  | none => none
def stepsOf (ops : Array Oper) (order l : List Nat) : List PStep := l.filterMap (stepOf ops order)

/-- The table of who is ahead of whom holds what the edges say, and no more. -/
def tableGo (n M : Nat) (l : List Oper) : Nat → Bool := List.rec (motive := fun _ => Nat → Bool) (fun _ => true)
  (fun o _ ih j => Bool.rec false (Bool.rec false (ih (Nat.succ j)) (Nat.beq (rowOf n M j) (edgeMask n M o.after.toList))) (allF (fun e => Bool.rec true (Nat.blt e.on j) (Region.binds .any e)) o.after.toList)) l
def tableOk (ops : Array Oper) : Bool := tableGo ops.size (rowsOf ops) ops.toList 0
/-- Who fills which slot. -/
def writersGo (l : List Oper) : Nat → List (Nat × Nat) := List.rec (motive := fun _ => Nat → List (Nat × Nat)) (fun _ => [])
  (fun o _ ih j => Option.rec (ih (Nat.succ j)) (fun d => (d, j) :: ih (Nat.succ j)) o.dst) l
def apartGo (l : List (Nat × Nat)) : Bool := List.rec true (fun x l ih => Bool.rec false ih (allF (fun y => Bool.rec true false (Nat.beq x.1 y.1)) l)) l
/-- Who looks at a slot comes behind the one who fills it; and nobody else fills it. -/
def slotsGo (ops : Array Oper) (n M C : Nat) (W : List (Nat × Nat)) (l : List Oper) : Nat → Bool := List.rec (motive := fun _ => Nat → Bool) (fun _ => true)
  (fun o _ ih i => Bool.rec false (ih (Nat.succ i)) (allF (fun t => allF (fun x => Bool.rec true (Bool.rec (Bool.rec false (bit C x.2) (bit (rowOf n M x.2) i)) true (bit (rowOf n M i) x.2)) (Nat.beq x.1 t)) W) (looks ops o))) l
def slotsOk (ops : Array Oper) : Bool := apartGo (writersGo ops.toList 0) && slotsGo ops ops.size (rowsOf ops) (chainOf ops) (writersGo ops.toList 0) ops.toList 0
def orderOkM (n M C full : Nat) (l : List Nat) : Nat → Bool := List.rec (motive := fun _ => Nat → Bool) (fun mask => Nat.beq mask full)
  (fun s rest ih mask => !(bit mask s) && Nat.blt s n && within (rowOf n M s) mask &&
    (!(bit C s) || allF (fun i => !(Nat.beq (Nat.land (rowOf n M i) (Nat.xor full mask)) 0)) rest) && ih (Nat.lor mask (Nat.pow 2 s))) l
def planOk (ops : Array Oper) (order : List Nat) : Bool :=
  tableOk ops && slotsOk ops && orderOkM ops.size (rowsOf ops) (chainOf ops) (Nat.sub (Nat.pow 2 ops.size) 1) order 0

/-- What must stay: what was read, or made. -/
inductive Watch where
  | read (keep : Nat) (o : Op) (R : Tree AV) (v : AV)
  | fresh (keep : Nat) (b : Pos) (c : ABlk)

def sameBlk : ABlk → ABlk → Bool
  | .cells st cur min len cs, .cells st' cur' min' len' cs' => st == st' && Nat.beq cur cur' && Nat.beq min min' && Nat.beq len len' && AV.beqs cs cs'
  | .map ver es, .map ver' es' => Nat.beq ver ver' && (match es, es' with | [], [] => true | _, _ => false)
  | _, _ => false
def lastNot (b : Pos) : Option (Nat × Pos × AV) → Bool
  | none => true
  | some (_, b', _) => !(b.beq b')
def watchOk (k : Nat) (H : Heap) : Watch → Bool
  | .read keep o R v => match Nat.ble k keep with
    | false => true
    | true => match floatOp P B o (opd R) H with
      | .ok v' _ => v.beq v'
      | .none => false
  | .fresh keep b c => match Nat.ble k keep with
    | false => true
    | true => match blk B H b with
      | some c' => sameBlk c c' && lastNot b H.last
      | none => false
def watchAll (k : Nat) (H : Heap) (W : List Watch) : Bool := W.all (watchOk P B k H)

/-- A float's watch. -/
def watchOf (s : PStep) (R : Tree AV) (H H' : Heap) (v : AV) : List Watch → List Watch := fun W =>
  match isPure s.op.op with
  | true => W
  | false => match isFresh s.op.op with
    | true => match blk B H' H.next with
      | some c => .fresh s.keep H.next c :: W
      | none => W
    | false => .read s.keep s.op.op R v :: W

def evPlan (ops : Array Oper) (K : Tree AV → Heap → Res) : List PStep → Nat → List Watch → Tree AV → Heap → Res
  | [], k, W, R, H => match watchAll P B k H W with
    | true => K R H
    | false => none
  | s :: l, k, W, R, H => match s.chain with
    | true => match watchAll P B k H W with
      | true => match isWanted ops R s.op with
        | some true => bindRes (evOp1 P B callF s.op.op (opd R) H) fun v H => evPlan ops K l (k + 1) W (put R s.op.dst v) H
        | some false => evPlan ops K l (k + 1) W (put R s.op.dst .undef) H
        | none => none
      | false => none
    | false => match isWanted ops R s.op with
      | some true => match floatOp P B s.op.op (opd R) H with
        | .ok v H' => evPlan ops K l k (watchOf B s R H H' v W) (put R s.op.dst v) H'
        | .none => none
      | some false => evPlan ops K l k W (put R s.op.dst .undef) H
      | none => none

def evOps (ops : Array Oper) (l : List Oper) (R : Tree AV) (H : Heap) (K : Tree AV → Heap → Res) : Res :=
  List.rec (motive := fun _ => Tree AV → Heap → (Tree AV → Heap → Res) → Res) (fun R H K => K R H)
    (fun o _ ih R H K => evOp P B callF ops o R H fun v H => ih (put R o.dst v) H K) l R H K
def loopN (body : Tree AV → Heap → (Ex → Tree AV → Heap → Res) → Res) (n : Nat) (R : Tree AV) (H : Heap) (K : Ex → Tree AV → Heap → Res) : Res :=
  Nat.rec (motive := fun _ => Tree AV → Heap → (Ex → Tree AV → Heap → Res) → Res) (fun _ _ _ => none)
    (fun _ ih R H K => body R H fun ex R H => match ex with
      | .normal => ih R H K
      | .exit i => K (.exit i) R H
      | .ret => K .ret R H) n R H K

def evRegion (ops : Array Oper) (draw : Bool) (R : Tree AV) (H : Heap) (K : Tree AV → Heap → Res) : Res := match draw with
  | false => evOps P B callF ops ops.toList R H K
  | true => match planOk ops (orderOf ops) with
    | true => evPlan P B callF ops K (stepsOf ops (orderOf ops) (orderOf ops)) 0 [] R H
    | false => none

def onCond (c : AV) (a b : Res) : Res := match c with
  | .bool c => match c with
    | true => a
    | false => b
  | _ => none
def onNormal (ex : Ex) (a : Res) (K : Ex → Res) : Res := match ex with
  | .normal => a
  | .exit i => K (.exit i)
  | .ret => K .ret
def onBlock (id : Nat) (ex : Ex) (K : Ex → Res) : Res := match ex with
  | .exit i => match Nat.beq i id with
    | true => K .normal
    | false => K (.exit i)
  | .normal => K .normal
  | .ret => K .ret

def evC (n : Nat) (c : Code) : Tree AV → Heap → (Ex → Tree AV → Heap → Res) → Res :=
  Code.rec (motive := fun _ => Tree AV → Heap → (Ex → Tree AV → Heap → Res) → Res)
    (fun R H K => K .normal R H)
    (fun _ ops draw R H K => evRegion P B callF ops draw R H (K .normal))
    (fun _ _ ia ib R H K => ia R H fun ex R H => onNormal ex (ib R H K) fun ex => K ex R H)
    (fun c _ _ ia ib R H K => onCond (opd R c) (ia R H K) (ib R H K))
    (fun id _ ia R H K => ia R H fun ex R H => onBlock id ex fun ex => K ex R H)
    (fun _ ia R H K => loopN ia n R H K)
    (fun _ _ _ _ _ _ _ _ _ => none)
    (fun id R H K => K (.exit id) R H)
    (fun _ ia R H K => ia R H K)
    (fun _ R H K => K .normal R H)
    (fun _ _ _ _ => none)
    (fun R H K => K .ret R H)
    (fun _ _ _ _ => none) c

def bury : List Pos → Tree ABlk → Tree ABlk
  | [], t => t
  | p :: l, t => bury l (t.set p .dead)

def regsOf : Nat → List AV → Tree AV → Tree AV
  | _, [], R => R
  | i, a :: l, R => regsOf (i + 1) l (R.set (Pos.ofNat i) a)

def resultOf (H : Heap) (R : Tree AV) (x : ResultVar) : Option AV := match x with
  | .tmp t => some (opd R (.tmp t))
  | .cell a t => match opd R (.tmp a) with
    | .ptr b g off ext => readVar P B t H b g off ext
    | _ => none
def resultsOf (H : Heap) (R : Tree AV) : List ResultVar → Option (List AV)
  | [] => some []
  | x :: l => match resultOf P B H R x with
    | some v => match resultsOf H R l with
      | some vs => some (v :: vs)
      | none => none
    | none => none

def cloneMap (x : AV) (H : Heap) : Res := match x with
  | .iface t (.map b) => toRes (getMap B H b fun _ es => .ok (.iface t (.map H.next)) (newObj (.map 0 es) H))
  | _ => none
def extern (fn : Func) (args : List AV) (H : Heap) : Res := match fn.name == "maps.clone" && fn.origin == "", args with
  | true, [x] => cloneMap B x H
  | _, _ => none

def tupleOf : List AV → AV
  | [v] => v
  | vs => .tuple vs

/-- All slots that are named lie below n. -/
def slotOk (n : Nat) (x : Operand) : Bool := match x with
  | .tmp t => Nat.blt t n
  | _ => true
def operOk (n : Nat) (o : Oper) : Bool := (match o.dst with | some d => Nat.blt d n | none => true)
def codeOk (n : Nat) : Code → Bool
  | .region _ ops _ => ops.toList.all (operOk n)
  | .seq a b => codeOk n a && codeOk n b
  | .cond _ a b => codeOk n a && codeOk n b
  | .block _ c => codeOk n c
  | .loop c => codeOk n c
  | .scope c => codeOk n c
  | _ => true

/-- Does it range over a map: then its results, over all orders, are held against each other. -/
def hasNext : Code → Bool
  | .region _ ops _ => ops.toList.any fun o => match o.op with | .next _ _ => true | _ => false
  | .seq a b => hasNext a || hasNext b
  | .cond _ a b => hasNext a || hasNext b
  | .block _ c => hasNext c
  | .loop c => hasNext c
  | .scope c => hasNext c
  | _ => false

def finish (its : List Pos) (H1 : Heap) : Option (List AV) → Res
  | some vs => some (tupleOf vs, onHeap H1 fun next blks stamps last its1 => ⟨next, bury its1 blks, stamps, last, its⟩)
  | none => none

def evBody (n : Nat) (fn : Func) (c : Code) (args : List AV) (H : Heap) : Res :=
  evC P B callF n c (regsOf 0 args .leaf) (onHeap H fun next blks stamps last _ => ⟨next, blks, stamps, last, []⟩) fun ex R H1 => match ex with
    | .exit _ => none
    | .normal => finish H.its H1 (resultsOf P B H1 R fn.results.toList)
    | .ret => finish H.its H1 (resultsOf P B H1 R fn.results.toList)

def laidOver (t : Tree ABlk) (r : Res) : Res := match r with
  | some (v, H) => some (v, onHeap H fun next blks stamps last its => ⟨next, t.over blks, stamps, last, its⟩)
  | none => none
end
def evFn (B : Tree ABlk) (callF : Tree ABlk → FuncId → List AV → Heap → Res) (n : Nat) (fn : Func) (args : List AV) (H : Heap) : Res := match fn.body with
  | none => extern B fn args H
  | some c => match codeOk fn.ntmps c && Nat.ble args.length fn.ntmps && !(fn.name == "runtime.NumGoroutine") with
    | true => match hasNext c with
      | true => laidOver H.blks (evBody P (B.over H.blks) callF n fn c args (onHeap H fun next _ stamps last its => ⟨next, .leaf, stamps, last, its⟩))
      | false => evBody P B callF n fn c args H
    | false => none

def funcTree : Tree Func := Tree.build 0 P.funcs.toList .leaf

/-- What is known of some calls already: they leave all that is known as it is. -/
abbrev Hook := FuncId → List AV → Option AV
def noHook : Hook := fun _ _ => none

def evF (hook : Hook) (m : Nat) (n : Nat) : Tree ABlk → FuncId → List AV → Heap → Res :=
  Nat.rec (motive := fun _ => Tree ABlk → FuncId → List AV → Heap → Res) (fun _ _ _ _ => none)
    (fun _ ih B f args H => match hook f args with
      | some v => some (v, H)
      | none => match (funcTree P).get (Pos.ofNat f) with
        | none => none
        | some fn => evFn P B ih m fn args H) n

def Heap.empty : Heap := ⟨.h, .leaf, 0, none, []⟩
/-- With so many unknown integers. -/
def Heap.ints (n : Nat) : Heap := ⟨.h, .leaf, n, none, []⟩
end
end Go.AM
