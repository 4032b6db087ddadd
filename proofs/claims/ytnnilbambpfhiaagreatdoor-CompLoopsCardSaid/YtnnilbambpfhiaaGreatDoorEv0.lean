/-
  The evaluator: abstract values, the abstract heap, the operations, the code. Definitions alone.
-/
import Derived.Orders
namespace Go.Proofs.YtnnilbambpfhiaaGreatDoor.Ev
open Go

/-! Whole numbers: a constant, or a constant and some unknowns with factors. -/
inductive Lin where
  | c (n : Int)
  | l (n : Int) (ts : List (Nat × Int))

def ilt : Int → Int → Bool
  | .ofNat a, .ofNat b => Nat.blt a b
  | .ofNat _, .negSucc _ => false
  | .negSucc _, .ofNat _ => true
  | .negSucc a, .negSucc b => Nat.blt b a
def ile (a b : Int) : Bool := match ilt b a with | true => false | false => true
def ieq : Int → Int → Bool
  | .ofNat a, .ofNat b => Nat.beq a b
  | .negSucc a, .negSucc b => Nat.beq a b
  | _, _ => false

/-- The unknowns' bounds. -/
abbrev Bnds := List (Int × Int)

def addT (v : Nat) (k : Int) : List (Nat × Int) → List (Nat × Int)
  | [] => [(v, k)]
  | (u, j) :: r => match Nat.beq u v with
    | true => (match ieq (Int.add j k) 0 with | true => r | false => (u, Int.add j k) :: r)
    | false => (u, j) :: addT v k r
def addTs : List (Nat × Int) → List (Nat × Int) → List (Nat × Int)
  | [], b => b
  | (v, k) :: r, b => addT v k (addTs r b)
def negTs : List (Nat × Int) → List (Nat × Int)
  | [] => []
  | (v, k) :: r => (v, Int.neg k) :: negTs r
def mkL (n : Int) : List (Nat × Int) → Lin
  | [] => .c n
  | t :: r => .l n (t :: r)
def Lin.add : Lin → Lin → Lin
  | .c a, .c b => .c (Int.add a b)
  | .c a, .l b t => .l (Int.add a b) t
  | .l a t, .c b => .l (Int.add a b) t
  | .l a t, .l b u => mkL (Int.add a b) (addTs t u)
def Lin.neg : Lin → Lin
  | .c a => .c (Int.neg a)
  | .l a t => .l (Int.neg a) (negTs t)
def Lin.sub : Lin → Lin → Lin
  | .c a, .c b => .c (Int.sub a b)
  | a, b => a.add b.neg

def getB : Bnds → Nat → Option (Int × Int)
  | [], _ => none
  | b :: _, 0 => some b
  | _ :: r, n + 1 => getB r n
/-- the least and the greatest value -/
def rangeTs (B : Bnds) : List (Nat × Int) → Option (Int × Int)
  | [] => some (0, 0)
  | (v, k) :: r => match getB B v, rangeTs B r with
    | some (lo, hi), some (a, b) => (match ilt k 0 with
      | false => some (Int.add (Int.mul k lo) a, Int.add (Int.mul k hi) b)
      | true => some (Int.add (Int.mul k hi) a, Int.add (Int.mul k lo) b))
    | _, _ => none
def Lin.range (B : Bnds) : Lin → Option (Int × Int)
  | .c n => some (n, n)
  | .l n t => match rangeTs B t with
    | some (a, b) => some (Int.add n a, Int.add n b)
    | none => none

def kmin : IntKind → Int
  | .i8 => -128 | .i16 => -32768 | .i32 => -2147483648 | .i64 => -9223372036854775808 | _ => 0
def kmax : IntKind → Int
  | .i8 => 127 | .i16 => 32767 | .i32 => 2147483647 | .i64 => 9223372036854775807
  | .u8 => 255 | .u16 => 65535 | .u32 => 4294967295 | .u64 => 18446744073709551615
def inKind (k : IntKind) (n : Int) : Bool := match ile (kmin k) n with | true => ile n (kmax k) | false => false
def wrapL (B : Bnds) (k : IntKind) : Lin → Option Lin
  | .c n => some (match inKind k n with | true => .c n | false => .c (k.wrap n))
  | .l n t => match (Lin.l n t).range B with
    | some (a, b) => (match ile (kmin k) a, ile b (kmax k) with | true, true => some (.l n t) | _, _ => none)
    | none => none

/-- a < b, if that is known -/
def ltL (B : Bnds) : Lin → Lin → Option Bool
  | .c a, .c b => some (ilt a b)
  | a, b => match (a.sub b).range B with
    | some (lo, hi) => (match ilt hi 0 with
      | true => some true
      | false => (match ilt lo 0 with | false => some false | true => none))
    | none => none
def eqL (B : Bnds) : Lin → Lin → Option Bool
  | .c a, .c b => some (ieq a b)
  | a, b => match (a.sub b).range B with
    | some (lo, hi) => (match ilt hi 0 with
      | true => some false
      | false => (match ilt 0 lo with
        | true => some false
        | false => (match ieq lo 0, ieq hi 0 with | true, true => some true | _, _ => none)))
    | none => none

/-! Values. -/
inductive ACap where
  | exact (n : Nat)
  | opn (skip : Nat)
inductive SC where
  | bool (b : Bool)
  | int (k : IntKind) (n : Lin)
  | float (k : FloatKind) (b : Nat)
  | cplx (k : FloatKind) (re im : Nat)
  | str (s : List UInt8)
  | nilptr
  | ptr (id off : Nat)
  | nilslice
  | slice (id off len : Nat) (cap : ACap)
  | nilfunc
  | func (f : Nat) (caps : List (Nat × Nat))
inductive V1 where
  | sc (s : SC)
  | agg (cs : List SC)
inductive AV where
  | one (x : V1)
  | tup (xs : List V1)
def AV.undef : AV := .tup []

/-! The trie. Functions that recur are written by their recursors: the kernel runs them several times faster so. -/
inductive Tr (α : Type) where
  | leaf
  | node (l : Tr α) (v : Option α) (r : Tr α)
/-- a number's bits, the lowest first -/
inductive BP where
  | z
  | o (p : BP)
  | i (p : BP)
noncomputable def bpGo (f : Nat) : Nat → BP :=
  Nat.rec (motive := fun _ => Nat → BP) (fun _ => .z)
    (fun _ ih n => Bool.rec (motive := fun _ => BP)
      (Bool.rec (motive := fun _ => BP) (BP.o (ih (Nat.div n 2))) (BP.i (ih (Nat.div n 2))) (Nat.beq (Nat.mod n 2) 1))
      BP.z (Nat.beq n 0)) f
noncomputable def key (n : Nat) : BP := bpGo n n
namespace Tr
variable {α : Type}
noncomputable def get (t : Tr α) : BP → Option α :=
  Tr.rec (motive := fun _ => BP → Option α) (fun _ => none)
    (fun _ v _ ihl ihr p => BP.rec (motive := fun _ => Option α) v (fun q _ => ihl q) (fun q _ => ihr q) p) t
noncomputable def set (x : Option α) (p : BP) : Tr α → Tr α :=
  BP.rec (motive := fun _ => Tr α → Tr α)
    (fun t => Tr.rec (motive := fun _ => Tr α) (.node .leaf x .leaf) (fun l _ r _ _ => .node l x r) t)
    (fun _ ih t => Tr.rec (motive := fun _ => Tr α) (.node (ih .leaf) none .leaf) (fun l v r _ _ => .node (ih l) v r) t)
    (fun _ ih t => Tr.rec (motive := fun _ => Tr α) (.node .leaf none (ih .leaf)) (fun l v r _ _ => .node l v (ih r)) t) p
end Tr

structure Row where
  elem : Nat
  opn : Bool
  ro : Bool
  cells : List SC
abbrev Heap := Tr Row
abbrev Tmps := Tr AV
noncomputable def hget (h : Heap) (id : Nat) : Option Row := h.get (key id)
noncomputable def hset (h : Heap) (id : Nat) (r : Option Row) : Heap := Tr.set r (key id) h
noncomputable def tget (t : Tmps) (i : Nat) : Option AV := t.get (key i)
noncomputable def tset (t : Tmps) (i : Nat) (v : AV) : Tmps := Tr.set (some v) (key i) t

/-! Answers. -/
inductive OR where
  | bad
  | val (v : AV) (h : Heap) (c : Nat)

/-! Operands. -/
def scOf : Value → Option SC
  | .bool b => some (.bool b)
  | .int k n => some (.int k (.c n))
  | .float k b => some (.float k b)
  | .complex k a b => some (.cplx k a b)
  | .string s => some (.str s.data.toList)
  | .pointer none => some .nilptr
  | .slice none 0 0 => some .nilslice
  | .nilFunc => some .nilfunc
  | _ => none
def scsOf : List Value → Option (List SC)
  | [] => some []
  | v :: r => match scOf v, scsOf r with | some s, some l => some (s :: l) | _, _ => none
def v1Of (v : Value) : Option V1 := match v with
  | .agg cs => (match scsOf cs.toList with | some l => some (.agg l) | none => none)
  | v => (match scOf v with | some s => some (.sc s) | none => none)

/-- G: how many globals there are: their blocks are the numbers below. -/
noncomputable def opd (G : Nat) (x : Operand) (t : Tmps) : Option AV := match x with
  | .tmp i => tget t i
  | .const v => (match v1Of v with | some x => some (.one x) | none => none)
  | .global g => (match Nat.blt g G with | true => some (.one (.sc (.ptr g 0))) | false => none)
  | .func f => some (.one (.sc (.func f [])))
noncomputable def opd1 (G : Nat) (x : Operand) (t : Tmps) : Option V1 := match opd G x t with
  | some (.one v) => some v
  | _ => none
noncomputable def opdS (G : Nat) (x : Operand) (t : Tmps) : Option SC := match opd G x t with
  | some (.one (.sc v)) => some v
  | _ => none
noncomputable def opdI (G : Nat) (x : Operand) (t : Tmps) : Option (IntKind × Lin) := match opd G x t with
  | some (.one (.sc (.int k n))) => some (k, n)
  | _ => none
noncomputable def opds1 (G : Nat) (t : Tmps) (l : List Operand) : Option (List V1) :=
  List.rec (motive := fun _ => Option (List V1)) (some [])
    (fun x _ ih => match opd1 G x t with
      | some v => (match ih with | some l => some (v :: l) | none => none)
      | none => none) l

def V1.cells : V1 → List SC
  | .sc s => [s]
  | .agg cs => cs

/-! Types. -/
/-- is it an aggregate, and of how many cells -/
def lay (P : Program) (t : TypeId) : Option (Bool × Nat) :=
  match P.info? t, P.underlying t with
  | some i, some (.struct _) => some (true, i.size)
  | some i, some (.array _ _) => some (true, i.size)
  | some i, some _ => some (false, i.size)
  | _, _ => none
def zeroOf (P : Program) (t : TypeId) : Option (List SC) := match P.info? t with
  | some i => (match i.zero with
    | some z => scsOf z.cells.toList
    | none => none)
  | none => none
def elemPtr (P : Program) (t : TypeId) : Option TypeId := match P.underlying t with
  | some (.pointer e) => some e
  | _ => none
def elemSl (P : Program) (t : TypeId) : Option TypeId := match P.underlying t with
  | some (.slice e) => some e
  | _ => none
def sizeT (P : Program) (t : TypeId) : Option Nat := match P.info? t with
  | some i => some i.size
  | none => none
def bytesT (P : Program) (t : TypeId) : Option Nat := match P.info? t with
  | some i => some i.bytes
  | none => none

/-! Lists of cells. -/
noncomputable def dropC (n : Nat) : List SC → List SC :=
  Nat.rec (motive := fun _ => List SC → List SC) (fun l => l)
    (fun _ ih l => List.casesOn (motive := fun _ => List SC) l [] (fun _ r => ih r)) n
noncomputable def takeC (n : Nat) : List SC → Option (List SC) :=
  Nat.rec (motive := fun _ => List SC → Option (List SC)) (fun _ => some [])
    (fun _ ih l => List.casesOn (motive := fun _ => Option (List SC)) l none (fun x r => Option.rec (motive := fun _ => Option (List SC)) none (fun l' => some (x :: l')) (ih r))) n
noncomputable def nthC (n : Nat) : List SC → Option SC :=
  Nat.rec (motive := fun _ => List SC → Option SC) (fun l => List.casesOn (motive := fun _ => Option SC) l none (fun x _ => some x))
    (fun _ ih l => List.casesOn (motive := fun _ => Option SC) l none (fun _ r => ih r)) n
/-- l with xs written over its begin; none: they don't fit -/
noncomputable def putHead (xs : List SC) : List SC → Option (List SC) :=
  List.rec (motive := fun _ => List SC → Option (List SC)) (fun l => some l)
    (fun x _ ih l => List.casesOn (motive := fun _ => Option (List SC)) l none (fun _ r => Option.rec (motive := fun _ => Option (List SC)) none (fun l' => some (x :: l')) (ih r))) xs
/-- .. from n on -/
noncomputable def putC (n : Nat) (l xs : List SC) : Option (List SC) :=
  Nat.rec (motive := fun _ => List SC → Option (List SC)) (fun l => putHead xs l)
    (fun _ ih l => List.casesOn (motive := fun _ => Option (List SC)) l none (fun y r => Option.rec (motive := fun _ => Option (List SC)) none (fun l' => some (y :: l')) (ih r))) n l
noncomputable def repC (z : List SC) (n : Nat) : List SC :=
  Nat.rec (motive := fun _ => List SC) [] (fun _ ih => z ++ ih) n
noncomputable def lenC (l : List SC) : Nat := List.rec (motive := fun _ => Nat) 0 (fun _ _ ih => Nat.succ ih) l

/-! Memory. -/
noncomputable def allocRow (r : Row) (h : Heap) (c : Nat) (k : Nat → V1) : OR :=
  match c with
  | 0 => .bad
  | m + 1 => .val (.one (k (Nat.succ m))) (hset h (Nat.succ m) (some r)) (Nat.succ (Nat.succ m))
def rowOf (e : Nat) (cells : List SC) : Row := ⟨e, false, false, cells⟩
noncomputable def loadA (agg : Bool) (n : Nat) (id off : Nat) (h : Heap) : Option V1 := match hget h id with
  | none => none
  | some r => (match agg with
    | true => (match takeC n (dropC off r.cells) with | some l => some (.agg l) | none => none)
    | false => (match nthC off r.cells with | some s => some (.sc s) | none => none))
noncomputable def storeA (n : Nat) (id off : Nat) (v : List SC) (h : Heap) : Option Heap := match hget h id with
  | none => none
  | some r => (match r.ro with
    | true => none
    | false => (match Nat.beq (lenC v) n with
      | false => none
      | true => (match putC off r.cells v with
        | some cs => some (hset h id (some ⟨r.elem, r.opn, false, cs⟩))
        | none => none)))
end Go.Proofs.YtnnilbambpfhiaaGreatDoor.Ev
