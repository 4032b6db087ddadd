/-
  The evaluator: the operations, the regions, the code, the calls. Definitions alone.
-/
import Derived.Test.YtnnilbambpfhiaaGreatDoorEv0
namespace Go.Proofs.YtnnilbambpfhiaaGreatDoor.Ev
open Go
noncomputable section

/-- The program, how many globals it has, the unknowns' bounds. -/
structure Ctx where
  P : Program
  G : Nat
  B : Bnds
abbrev CallF := Nat → List V1 → Heap → Nat → OR

def okV (v : AV) (h : Heap) (c : Nat) : OR := .val v h c
def okS (s : SC) (h : Heap) (c : Nat) : OR := .val (.one (.sc s)) h c

def ueq (a b : UInt8) : Bool := Nat.beq a.toNat b.toNat
def strEq (x : List UInt8) : List UInt8 → Bool :=
  List.rec (motive := fun _ => List UInt8 → Bool) (fun y => List.casesOn (motive := fun _ => Bool) y true (fun _ _ => false))
    (fun a _ ih y => List.casesOn (motive := fun _ => Bool) y false (fun b r => Bool.rec (motive := fun _ => Bool) false (ih r) (ueq a b))) x
def strLt : List UInt8 → List UInt8 → Bool
  | _, [] => false
  | [], _ :: _ => true
  | a :: x, b :: y => (match Nat.blt a.toNat b.toNat with
    | true => true
    | false => (match ueq a b with | true => strLt x y | false => false))
def lenS (l : List UInt8) : Nat := List.rec (motive := fun _ => Nat) 0 (fun _ _ ih => Nat.succ ih) l
def bnot : Bool → Bool | true => false | false => true
def bor : Bool → Bool → Bool | true, _ => true | false, b => b

def intOp (B : Bnds) (op : BinOp) (k : IntKind) (x y : Lin) : Option SC :=
  match op with
  | .add => (match wrapL B k (x.add y) with | some n => some (.int k n) | none => none)
  | .sub => (match wrapL B k (x.sub y) with | some n => some (.int k n) | none => none)
  | .eql => (match eqL B x y with | some b => some (.bool b) | none => none)
  | .neq => (match eqL B x y with | some b => some (.bool (bnot b)) | none => none)
  | .lss => (match ltL B x y with | some b => some (.bool b) | none => none)
  | .gtr => (match ltL B y x with | some b => some (.bool b) | none => none)
  | .leq => (match ltL B y x with | some b => some (.bool (bnot b)) | none => none)
  | .geq => (match ltL B x y with | some b => some (.bool (bnot b)) | none => none)
  | op => (match x, y with
    | .c a, .c b => (match op with
      | .mul => (match wrapL B k (.c (Int.mul a b)) with | some n => some (.int k n) | none => none)
      | .quo => (match ieq b 0 with | true => none | false => some (.int k (.c (k.wrap (a.tdiv b)))))
      | .rem => (match ieq b 0 with | true => none | false => some (.int k (.c (a.tmod b))))
      | .and => some (.int k (.c (k.wrap ((BitVec.ofInt k.bits a &&& BitVec.ofInt k.bits b).toNat))))
      | .or => some (.int k (.c (k.wrap ((BitVec.ofInt k.bits a ||| BitVec.ofInt k.bits b).toNat))))
      | .xor => some (.int k (.c (k.wrap ((BitVec.ofInt k.bits a ^^^ BitVec.ofInt k.bits b).toNat))))
      | .andNot => some (.int k (.c (k.wrap ((BitVec.ofInt k.bits a &&& ~~~ BitVec.ofInt k.bits b).toNat))))
      | _ => none)
    | _, _ => none)

def strOp (op : BinOp) (x y : List UInt8) : Option SC :=
  match op with
  | .eql => some (.bool (strEq x y))
  | .neq => some (.bool (bnot (strEq x y)))
  | .lss => some (.bool (strLt x y))
  | .leq => some (.bool (bor (strLt x y) (strEq x y)))
  | .gtr => some (.bool (bnot (bor (strLt x y) (strEq x y))))
  | .geq => some (.bool (bnot (strLt x y)))
  | .add => (match Nat.ble (Nat.add (lenS x) (lenS y)) 1000000 with | true => some (.str (x ++ y)) | false => none)
  | _ => none

/-- == of two single cells, at a type -/
def eqS (P : Program) (B : Bnds) (t : TypeId) (x y : SC) : Option Bool := match P.underlying t, x, y with
  | some .bool, .bool a, .bool b => some (match a with | true => b | false => bnot b)
  | some (.int _), .int k a, .int k' b => if k = k' then eqL B a b else none
  | some (.float _), .float k a, .float k' b => if k = k' then some (Op.floatEq k a b) else none
  | some (.complex _), .cplx k a b, .cplx k' c d => if k = k' then some (Op.floatEq k a c && Op.floatEq k b d) else none
  | some .string, .str a, .str b => some (strEq a b)
  | some (.pointer _), .nilptr, .nilptr => some true
  | some (.pointer _), .nilptr, .ptr _ _ => some false
  | some (.pointer _), .ptr _ _, .nilptr => some false
  | some (.slice _), .nilslice, .nilslice => some true
  | some (.slice _), .nilslice, .slice .. => some false
  | some (.slice _), .slice .., .nilslice => some false
  | some (.func ..), .nilfunc, .nilfunc => some true
  | some (.func ..), .nilfunc, .func .. => some false
  | some (.func ..), .func .., .nilfunc => some false
  | _, _, _ => none
/-- == of two structs, all of whose fields are single cells of other than interface kinds -/
def eqFs (P : Program) (B : Bnds) (xs ys : List SC) : List Field → Option Bool
  | [] => some true
  | f :: r => (match f.name != "_", lay P f.type with
    | true, some (false, _) => (match nthC f.offset xs, nthC f.offset ys with
      | some x, some y => (match eqS P B f.type x y with
        | some true => eqFs P B xs ys r
        | some false => some false
        | none => none)
      | _, _ => none)
    | _, _ => none)
def eqA (P : Program) (B : Bnds) (t : TypeId) (xs ys : List SC) : Option Bool :=
  match P.underlying t, P.stoodInHeld t, P.eqGuardType P.depth t with
  | some (.struct fs), false, false => eqFs P B xs ys fs.toList
  | _, _, _ => none

def cplxOp (op : BinOp) (k : FloatKind) (a b c d : Nat) : Option SC :=
  match op with
  | .eql => some (.bool (k.format.order a c == some .eq && k.format.order b d == some .eq))
  | .neq => some (.bool (!(k.format.order a c == some .eq && k.format.order b d == some .eq)))
  | _ => none
def eqKind : SC → Bool
  | .bool _ | .nilptr | .ptr .. | .nilslice | .slice .. | .nilfunc | .func .. => true
  | _ => false
def binOpA (X : Ctx) (op : BinOp) (t : TypeId) (a b : V1) : Option SC :=
  match a, b with
  | .sc (.int k x), .sc (.int k' y) => if k = k' then intOp X.B op k x y else none
  | .sc (.str x), .sc (.str y) => strOp op x y
  | .sc (.cplx k a b), .sc (.cplx k' c d) => if k = k' then cplxOp op k a b c d else none
  | .agg xs, .agg ys => (match op with
    | .eql => (match eqA X.P X.B t xs ys with | some r => some (.bool r) | none => none)
    | .neq => (match eqA X.P X.B t xs ys with | some r => some (.bool (bnot r)) | none => none)
    | _ => none)
  | .sc x, .sc y => (match op, eqKind x with
    | .eql, true => (match eqS X.P X.B t x y with | some r => some (.bool r) | none => none)
    | .neq, true => (match eqS X.P X.B t x y with | some r => some (.bool (bnot r)) | none => none)
    | _, _ => none)
  | _, _ => none

def unOpA (B : Bnds) (op : UnOp) (x : SC) : Option SC := match op, x with
  | .not, .bool b => some (.bool (bnot b))
  | .neg, .int k n => (match wrapL B k (Lin.sub (.c 0) n) with | some m => some (.int k m) | none => none)
  | .xor, .int k (.c n) => some (.int k (.c (k.wrap ((BitVec.ofInt k.bits (if k.signed then -1 else k.max) ^^^ BitVec.ofInt k.bits n).toNat))))
  | _, _ => none

/-- parts laid into cells -/
def fillA (place : Nat → Option (Nat × Nat)) (cells : List SC) (ps : List (Nat × V1)) : Option (List SC) :=
  List.rec (motive := fun _ => List SC → Option (List SC)) (fun cells => some cells)
    (fun x _ ih cells => match place x.1 with
      | none => none
      | some p => (match Nat.beq (lenC x.2.cells) p.2 with
        | false => none
        | true => (match putC p.1 cells x.2.cells with
          | some cs => ih cs
          | none => none))) ps cells
def parts1 (G : Nat) (t : Tmps) (l : List (Nat × Operand)) : Option (List (Nat × V1)) :=
  List.rec (motive := fun _ => Option (List (Nat × V1))) (some [])
    (fun x _ ih => match opd1 G x.2 t with
      | some v => (match ih with | some l => some ((x.1, v) :: l) | none => none)
      | none => none) l
def placesOf (P : Program) : List Field → Option (List (Nat × Nat))
  | [] => some []
  | f :: r => match sizeT P f.type, placesOf P r with
    | some s, some l => some ((f.offset, s) :: l)
    | _, _ => none
def nthP (l : List (Nat × Nat)) (n : Nat) : Option (Nat × Nat) :=
  Nat.rec (motive := fun _ => List (Nat × Nat) → Option (Nat × Nat)) (fun l => List.casesOn (motive := fun _ => Option (Nat × Nat)) l none (fun x _ => some x))
    (fun _ ih l => List.casesOn (motive := fun _ => Option (Nat × Nat)) l none (fun _ r => ih r)) n l
def buildA (P : Program) (t : TypeId) (ps : List (Nat × V1)) : Option V1 :=
  match zeroOf P t, P.underlying t with
  | some z, some (.struct fs) => (match placesOf P fs.toList with
    | some pl => (match fillA (nthP pl) z ps with | some cs => some (.agg cs) | none => none)
    | none => none)
  | some z, some (.array _ e) => (match sizeT P e with
    | some s => (match fillA (fun i => some (Nat.mul i s, s)) z ps with | some cs => some (.agg cs) | none => none)
    | none => none)
  | _, _ => none
def buildSliceA (P : Program) (t : TypeId) (len : Nat) (ps : List (Nat × V1)) : Option (Nat × List SC) :=
  match elemSl P t with
  | none => none
  | some e => (match sizeT P e, zeroOf P e with
    | some s, some z => (match Nat.beq s 0, Nat.beq (lenC z) s, Nat.ble (Nat.mul len s) 16777216 with
      | false, true, true => (match fillA (fun i => some (Nat.mul i s, s)) (repC z len) ps with
        | some cs => some (e, cs)
        | none => none)
      | _, _, _ => none)
    | _, _ => none)

/-- a whole number that is known -/
def natOf : Lin → Option Nat
  | .c (.ofNat n) => some n
  | _ => none
def idxOf (G : Nat) (x : Operand) (t : Tmps) : Option Nat := match opdI G x t with
  | some (_, n) => natOf n
  | none => none
/-- a bound of a slice expression: not there, or a number -/
def boundOf (G : Nat) (t : Tmps) : Option Operand → Option (Option Nat)
  | none => some none
  | some x => (match idxOf G x t with | some n => some (some n) | none => none)

def sliceStr (s : List UInt8) (lo hi : Option Nat) : Option (List UInt8) :=
  let h := hi.getD (lenS s)
  let l := lo.getD 0
  match Nat.ble h (lenS s), Nat.ble l h with
  | true, true => some ((s.drop l).take (Nat.sub h l))
  | _, _ => none
/-- s[lo:hi:mx] of a slice whose capacity is known -/
def sliceEx (size id off len cap : Nat) (lo hi mx : Option Nat) : Option SC :=
  let m := mx.getD cap
  let h := hi.getD len
  let l := lo.getD 0
  match Nat.ble m cap, Nat.ble h m, Nat.ble l h, (match mx, hi with | some _, none => false | _, _ => true) with
  | true, true, true, true => some (.slice id (match Nat.beq m l with | true => off | false => Nat.add off (Nat.mul l size)) (Nat.sub h l) (.exact (Nat.sub m l)))
  | _, _, _, _ => none
/-- .. of one whose capacity isn't: it is at least its length, by its row -/
def sliceOp (size id off len sk : Nat) (lo hi mx : Option Nat) : Option SC :=
  let h := hi.getD len
  let l := lo.getD 0
  match mx with
  | none => (match Nat.ble h len, Nat.ble l h, (match Nat.beq l 0 with | true => true | false => Nat.blt l len) with
    | true, true, true => some (.slice id (Nat.add off (Nat.mul l size)) (Nat.sub h l) (.opn (Nat.add sk l)))
    | _, _, _ => none)
  | some m => (match Nat.ble m len, Nat.ble h m, Nat.ble l h, hi with
    | true, true, true, some _ => some (.slice id (match Nat.beq m l with | true => off | false => Nat.add off (Nat.mul l size)) (Nat.sub h l) (.exact (Nat.sub m l)))
    | _, _, _, _ => none)
/-- does the row bear that an open slice is no longer than its capacity -/
def bears (e size off len sk : Nat) (r : Row) : Bool :=
  match r.opn, Nat.beq r.elem e, Nat.beq off (Nat.mul sk size), Nat.ble (Nat.add off (Nat.mul len size)) (lenC r.cells) with
  | true, true, true, true => true
  | _, _, _, _ => false
def sliceA (X : Ctx) (t : TypeId) (x : SC) (lo hi mx : Option Nat) (h : Heap) : Option SC :=
  match X.P.underlying t, x with
  | some .string, .str s => (match mx with
    | none => (match sliceStr s lo hi with | some r => some (.str r) | none => none)
    | some _ => none)
  | some (.slice e), .nilslice => (match sizeT X.P e, Nat.beq (lo.getD 0) 0, Nat.beq (hi.getD 0) 0, mx with
    | some _, true, true, none => some .nilslice
    | _, _, _, _ => none)
  | some (.slice e), .slice id off len (.exact c) => (match sizeT X.P e with
    | some s => sliceEx s id off len c lo hi mx
    | none => none)
  | some (.slice e), .slice id off len (.opn sk) => (match sizeT X.P e, hget h id with
    | some s, some r => (match bears e s off len sk r, Nat.beq s 0 with
      | true, false => sliceOp s id off len sk lo hi mx
      | _, _ => none)
    | _, _ => none)
  | _, _ => none

def idxAddrA (X : Ctx) (t : TypeId) (x : SC) (i : Nat) : Option SC :=
  match X.P.underlying t, x with
  | some (.array n e), .ptr id off => (match sizeT X.P e, Nat.blt i n with
    | some s, true => some (.ptr id (Nat.add off (Nat.mul i s)))
    | _, _ => none)
  | some (.slice e), .slice id off len _ => (match sizeT X.P e, Nat.blt i len with
    | some s, true => some (.ptr id (Nat.add off (Nat.mul i s)))
    | _, _ => none)
  | _, _ => none
def nthU (n : Nat) : List UInt8 → Option UInt8 :=
  Nat.rec (motive := fun _ => List UInt8 → Option UInt8) (fun l => List.casesOn (motive := fun _ => Option UInt8) l none (fun x _ => some x))
    (fun _ ih l => List.casesOn (motive := fun _ => Option UInt8) l none (fun _ r => ih r)) n
def partA (P : Program) (t : TypeId) (cs : List SC) (off : Nat) : Option V1 := match lay P t with
  | some (true, n) => (match takeC n (dropC off cs) with | some l => some (.agg l) | none => none)
  | some (false, _) => (match nthC off cs with | some s => some (.sc s) | none => none)
  | none => none
def indexA (X : Ctx) (t : TypeId) (x : V1) (i : Nat) : Option V1 :=
  match X.P.underlying t, x with
  | some (.array n e), .agg cs => (match sizeT X.P e, Nat.blt i n with
    | some s, true => partA X.P e cs (Nat.mul i s)
    | _, _ => none)
  | some .string, .sc (.str s) => (match nthU i s with
    | some b => some (.sc (.int .u8 (.c (Int.ofNat b.toNat))))
    | none => none)
  | _, _ => none
def fieldOf (P : Program) (t : TypeId) (f : Nat) : Option Field := match P.underlying t with
  | some (.struct fs) => fs.toList[f]?
  | _ => none
/-- a field's place, where it takes cells at all -/
def placeOf (P : Program) (t : TypeId) (f : Nat) : Option Nat := match fieldOf P t f with
  | some x => (match sizeT P x.type with
    | some s => (match Nat.beq s 0 with | true => none | false => some x.offset)
    | none => none)
  | none => none

/-! append -/
def bytesA (s : List UInt8) : List SC := s.map fun b => .int .u8 (.c (Int.ofNat b.toNat))
/-- the elements that are put behind: how many, their cells -/
def newCells (size : Nat) (x : SC) (h : Heap) : Option (Nat × List SC) := match x with
  | .nilslice => some (0, [])
  | .str s => (match Nat.beq size 1 with | true => some (lenS s, bytesA s) | false => none)
  | .slice id off len _ => (match hget h id with
    | some r => (match takeC (Nat.mul len size) (dropC off r.cells) with
      | some l => some (len, l)
      | none => none)
    | none => none)
  | _ => none
def openRow (e : Nat) (cells : List SC) : Row := ⟨e, true, false, cells⟩
def growA (e need : Nat) (cells : List SC) (h : Heap) (c : Nat) : OR :=
  allocRow (openRow e cells) h c fun id => .sc (.slice id 0 need (.opn 0))
def fitsA (need bytes : Nat) : Bool := match Nat.beq bytes 0 with
  | true => false
  | false => Nat.ble (Nat.mul need bytes) 140737488355328
/-- the zero value takes as many cells as the type -/
def zOk (P : Program) (e size : Nat) : Bool := match zeroOf P e with
  | some z => Nat.beq (lenC z) size
  | none => false
def appendA (X : Ctx) (t : TypeId) (s x : SC) (h : Heap) (c : Nat) : OR :=
  match elemSl X.P t with
  | none => .bad
  | some e => match sizeT X.P e, bytesT X.P e with
    | some size, some bytes => (match Nat.beq size 0, zOk X.P e size, newCells size x h with
      | false, true, some (n, new) => appendTo e size bytes n new s h c
      | _, _, _ => .bad)
    | _, _ => .bad
  where
  appendTo (e size bytes n : Nat) (new : List SC) (s : SC) (h : Heap) (c : Nat) : OR := match s with
    | .nilslice => (match Nat.beq n 0 with
      | true => okS .nilslice h c
      | false => (match fitsA n bytes with | true => growA e n new h c | false => .bad))
    | .slice id off len (.exact cap) => (match Nat.ble (Nat.add len n) cap with
      | true => (match Nat.beq n 0 with
        | true => okS (.slice id off len (.exact cap)) h c
        | false => (match storeA (Nat.mul n size) id (Nat.add off (Nat.mul len size)) new h with
          | some h' => okS (.slice id off (Nat.add len n) (.exact cap)) h' c
          | none => .bad))
      | false => (match fitsA (Nat.add len n) bytes, Nat.beq len 0, hget h id with
        | true, true, _ => growA e (Nat.add len n) new h c
        | true, false, some r => (match takeC (Nat.mul len size) (dropC off r.cells) with
          | some old => growA e (Nat.add len n) (old ++ new) h c
          | none => .bad)
        | _, _, _ => .bad))
    | .slice id off len (.opn sk) => (match hget h id with
      | some r => (match bears e size off len sk r, Nat.beq n 0 with
        | true, true => okS (.slice id off len (.opn sk)) h c
        | true, false => (match Nat.beq off 0, Nat.beq sk 0, r.ro, fitsA (Nat.add len n) bytes, takeC (Nat.mul len size) r.cells with
          | true, true, false, true, some old => growA e (Nat.add len n) (old ++ new) (hset h id none) c
          | _, _, _, _, _ => .bad)
        | _, _ => .bad)
      | none => .bad)
    | _ => .bad

def lenA (X : Ctx) (t : TypeId) (x : V1) : Option Nat := match X.P.underlying t, x with
  | some .string, .sc (.str s) => some (lenS s)
  | some (.array n _), _ => some n
  | some (.slice _), .sc .nilslice => some 0
  | some (.slice _), .sc (.slice _ _ n _) => some n
  | _, _ => none
/-- the greater (the lesser) of two numbers -/
def mxA (B : Bnds) (mx : Bool) : SC → SC → Option SC
  | .int k x, .int k' y => if k = k' then (match mx with
    | true => (match ltL B x y with | some true => some (.int k y) | some false => some (.int k x) | none => none)
    | false => (match ltL B y x with | some true => some (.int k y) | some false => some (.int k x) | none => none)) else none
  | _, _ => none

def ptrsOf (G : Nat) (t : Tmps) (l : List Operand) : Option (List (Nat × Nat)) :=
  List.rec (motive := fun _ => Option (List (Nat × Nat))) (some [])
    (fun x _ ih => match opdS G x t with
      | some (.ptr id off) => (match ih with | some l => some ((id, off) :: l) | none => none)
      | _ => none) l
def ptrArgs (l : List (Nat × Nat)) : List V1 := l.map fun x => .sc (.ptr x.1 x.2)

def builtinA (X : Ctx) (b : Builtin) (tys : List TypeId) (args : List V1) (h : Heap) (c : Nat) : OR :=
  match b, tys, args with
  | .len, t :: _, x :: _ => (match lenA X t x with | some n => okS (.int .i64 (.c (Int.ofNat n))) h c | none => .bad)
  | .append, [t, u], [.sc s, .sc x] => (match X.P.underlying u with
    | some (.slice _) => appendA X t s x h c
    | some .string => appendA X t s x h c
    | _ => .bad)
  | .max, _, [.sc x, .sc y] => (match mxA X.B true x y with | some s => okS s h c | none => .bad)
  | .min, _, [.sc x, .sc y] => (match mxA X.B false x y with | some s => okS s h c | none => .bad)
  | .real, _, [.sc (.cplx k a _)] => okS (.float k a) h c
  | .imag, _, [.sc (.cplx k _ b)] => okS (.float k b) h c
  | _, _, _ => .bad

def callA (X : Ctx) (callF : CallF) (cl : Call) (t : Tmps) (h : Heap) (c : Nat) : OR :=
  match cl.callee with
  | .builtin b => (match opds1 X.G t cl.args.toList with
    | some args => builtinA X b cl.argTypes.toList args h c
    | none => .bad)
  | .value f => (match opdS X.G f t, opds1 X.G t cl.args.toList with
    | some (.func g caps), some args => callF g (args ++ ptrArgs caps) h c
    | _, _ => .bad)
  | _ => .bad

def ofS (s : Option SC) (h : Heap) (c : Nat) : OR := match s with | some s => okS s h c | none => .bad
def of1 (s : Option V1) (h : Heap) (c : Nat) : OR := match s with | some s => okV (.one s) h c | none => .bad

/-- An operation: its value (of a store: undef), the heap and the counter behind it. -/
def opA (X : Ctx) (callF : CallF) (op : Op) : Tmps → Heap → Nat → OR :=
  match op with
  | .move x | .assign x => fun t h c => (match opd X.G x t with | some v => okV v h c | none => .bad)
  | .pick x a b => fun t h c => (match opdS X.G x t with
    | some (.bool true) => (match opd X.G a t with | some v => okV v h c | none => .bad)
    | some (.bool false) => (match opd X.G b t with | some v => okV v h c | none => .bad)
    | _ => .bad)
  | .alloc e => fun _ h c => (match zeroOf X.P e with
    | some z => allocRow (rowOf e z) h c fun id => .sc (.ptr id 0)
    | none => .bad)
  | .box e x => fun t h c => (match opd1 X.G x t with
    | some v => allocRow (rowOf e v.cells) h c fun id => .sc (.ptr id 0)
    | none => .bad)
  | .build ty ps => fun t h c => (match parts1 X.G t ps.toList with
    | some l => of1 (buildA X.P ty l) h c
    | none => .bad)
  | .buildSlice ty n ps => fun t h c => (match parts1 X.G t ps.toList with
    | some l => (match buildSliceA X.P ty n l with
      | some (e, cs) => allocRow (rowOf e cs) h c fun id => .sc (.slice id 0 n (.exact n))
      | none => .bad)
    | none => .bad)
  | .load ty a => fun t h c => (match lay X.P ty, opdS X.G a t with
    | some (g, n), some (.ptr id off) => of1 (loadA g n id off h) h c
    | _, _ => .bad)
  | .store ty a x => fun t h c => (match sizeT X.P ty, opdS X.G a t, opd1 X.G x t with
    | some n, some (.ptr id off), some v => (match storeA n id off v.cells h with
      | some h' => okV .undef h' c
      | none => .bad)
    | _, _, _ => .bad)
  | .nilCheck x => fun t h c => (match opdS X.G x t with
    | some (.ptr id off) => okS (.ptr id off) h c
    | some (.func f l) => okS (.func f l) h c
    | _ => .bad)
  | .binOp op ty x y _ => fun t h c => (match opd1 X.G x t, opd1 X.G y t with
    | some a, some b => ofS (binOpA X op ty a b) h c
    | _, _ => .bad)
  | .unOp op _ x => fun t h c => (match opdS X.G x t with | some a => ofS (unOpA X.B op a) h c | none => .bad)
  | .convert s d x => fun t h c => (match X.P.underlying s, X.P.underlying d, opdS X.G x t with
    | some _, some (.int k), some (.int _ n) => (match wrapL X.B k n with | some m => okS (.int k m) h c | none => .bad)
    | some _, some .string, some (.str s) => okS (.str s) h c
    | _, _, _ => .bad)
  | .makeFunc fn first caps => fun t h c => (match fn, first.toList, ptrsOf X.G t caps.toList with
    | .func f, [], some l => okS (.func f l) h c
    | _, _, _ => .bad)
  | .makeSlice ty l m => fun t h c => (match elemSl X.P ty, idxOf X.G l t, idxOf X.G m t with
    | some e, some n, some k => (match sizeT X.P e, bytesT X.P e, zeroOf X.P e with
      | some s, some by_, some z => (match Nat.beq s 0, Nat.beq (lenC z) s, Nat.ble n k, Nat.ble (Nat.mul by_ k) 281474976710656, Nat.ble k 4611686018427387904 with
        | false, true, true, true, true => allocRow (rowOf e (repC z k)) h c fun id => .sc (.slice id 0 n (.exact k))
        | _, _, _, _, _ => .bad)
      | _, _, _ => .bad)
    | _, _, _ => .bad)
  | .slice ty x lo hi mx => fun t h c => (match opdS X.G x t, boundOf X.G t lo, boundOf X.G t hi, boundOf X.G t mx with
    | some s, some l, some u, some m => ofS (sliceA X ty s l u m h) h c
    | _, _, _, _ => .bad)
  | .fieldAddr ty x f => fun t h c => (match placeOf X.P ty f, opdS X.G x t with
    | some o, some (.ptr id off) => okS (.ptr id (Nat.add off o)) h c
    | _, _ => .bad)
  | .field ty x f => fun t h c => (match fieldOf X.P ty f, opd1 X.G x t with
    | some fd, some (.agg cs) => of1 (partA X.P fd.type cs fd.offset) h c
    | _, _ => .bad)
  | .indexAddr ty x i => fun t h c => (match opdS X.G x t, idxOf X.G i t with
    | some s, some n => ofS (idxAddrA X ty s n) h c
    | _, _ => .bad)
  | .index ty x i => fun t h c => (match opd1 X.G x t, idxOf X.G i t with
    | some v, some n => of1 (indexA X ty v n) h c
    | _, _ => .bad)
  | .extract x i => fun t h c => (match opd X.G x t with
    | some (.tup vs) => of1 (vs[i]?) h c
    | _ => .bad)
  | .call cl => fun t h c => callA X callF cl t h c
  | _ => fun _ _ _ => .bad

/-! Regions. -/
inductive RS where
  | bad
  | ok (t : Tmps) (h : Heap) (c : Nat)
/-- the slot of an operation's guard, and what is wanted of it -/
def guardOf (ops : Array Oper) (o : Oper) : Option (Option Tmp × Bool) := match o.guard with
  | none => none
  | some (j, want) => some ((ops[j]?).bind (·.dst), want)
/-- is it to be done? none: that isn't known -/
def wantedA (g : Option (Option Tmp × Bool)) (t : Tmps) : Option Bool := match g with
  | none => some true
  | some (none, _) => some false
  | some (some d, want) => (match tget t d with
    | none => none
    | some (.one (.sc (.bool b))) => some (match b with | true => want | false => bnot want)
    | some _ => some false)
def putA (nt : Nat) (dst : Option Tmp) (v : AV) (t : Tmps) : Option Tmps := match dst with
  | none => some t
  | some d => (match Nat.blt d nt with | true => some (tset t d v) | false => none)
def finA (nt : Nat) (dst : Option Tmp) (c0 : Nat) (r : OR) (t : Tmps) : RS := match r with
  | .bad => .bad
  | .val v h c => (match putA nt dst v t, Nat.ble c0 c with | some t', true => .ok t' h c | _, _ => .bad)
def oneA (X : Ctx) (callF : CallF) (nt : Nat) (ops : Array Oper) (o : Oper) : Tmps → Heap → Nat → RS :=
  match guardOf ops o with
  | none => fun t h c => finA nt o.dst c (opA X callF o.op t h c) t
  | some g => fun t h c => (match wantedA (some g) t with
    | some true => finA nt o.dst c (opA X callF o.op t h c) t
    | some false => finA nt o.dst c (okV .undef h c) t
    | none => .bad)
def RS.bind (r : RS) (k : Tmps → Heap → Nat → RS) : RS := RS.rec (motive := fun _ => RS) .bad k r
def seqA (X : Ctx) (callF : CallF) (nt : Nat) (ops : Array Oper) (l : List Oper) : Tmps → Heap → Nat → RS :=
  List.rec (motive := fun _ => Tmps → Heap → Nat → RS) (fun t h c => .ok t h c)
    (fun o _ ih t h c => (oneA X callF nt ops o t h c).bind ih) l
end
end Go.Proofs.YtnnilbambpfhiaaGreatDoor.Ev
