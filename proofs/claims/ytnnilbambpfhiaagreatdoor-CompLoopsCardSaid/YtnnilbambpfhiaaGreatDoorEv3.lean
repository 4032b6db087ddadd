/-
  The evaluator: calls that are known already (by a pattern of their arguments, of the rows that they meet, and of what comes of it). Definitions alone.
-/
import Derived.Test.YtnnilbambpfhiaaGreatDoorEv2
namespace Go.Proofs.YtnnilbambpfhiaaGreatDoor.Ev
open Go
noncomputable section

/-- of the pattern's numbers, which ones stand there -/
abbrev Subst := List (Nat × Nat)
/-- of the pattern's unknowns, what stands there -/
abbrev Th := List (Nat × Lin)
def sLook (s : Subst) (i : Nat) : Option Nat :=
  List.rec (motive := fun _ => Option Nat) none (fun x _ ih => Bool.rec (motive := fun _ => Option Nat) ih (some x.2) (Nat.beq x.1 i)) s
def tLook (s : Th) (i : Nat) : Option Lin :=
  List.rec (motive := fun _ => Option Lin) none (fun x _ ih => Bool.rec (motive := fun _ => Option Lin) ih (some x.2) (Nat.beq x.1 i)) s
structure MS where
  s : Subst
  th : Th
def sAdd (m : MS) (i j : Nat) : Option MS := match sLook m.s i with
  | none => some ⟨(i, j) :: m.s, m.th⟩
  | some k => (match Nat.beq k j with | true => some m | false => none)
def tsEq : List (Nat × Int) → List (Nat × Int) → Bool
  | [], [] => true
  | (v, k) :: r, (u, j) :: q => (match Nat.beq v u, ieq k j with | true, true => tsEq r q | _, _ => false)
  | _, _ => false
def linEq : Lin → Lin → Bool
  | .c a, .c b => ieq a b
  | .l a t, .l b u => (match ieq a b with | true => tsEq t u | false => false)
  | _, _ => false
def capEq : ACap → ACap → Bool
  | .exact a, .exact b => Nat.beq a b
  | .opn a, .opn b => Nat.beq a b
  | _, _ => false
def boolEq : Bool → Bool → Bool
  | true, b => b
  | false, b => bnot b
def kindEq : IntKind → IntKind → Bool
  | .i8, .i8 => true | .i16, .i16 => true | .i32, .i32 => true | .i64, .i64 => true
  | .u8, .u8 => true | .u16, .u16 => true | .u32, .u32 => true | .u64, .u64 => true
  | _, _ => false
def fkEq : FloatKind → FloatKind → Bool
  | .f32, .f32 => true
  | .f64, .f64 => true
  | _, _ => false
def guardO (b : Bool) (m : MS) : Option MS := match b with | true => some m | false => none
def capsM (m : MS) : List (Nat × Nat) → List (Nat × Nat) → Option MS
  | [], [] => some m
  | (i, o) :: r, (j, p) :: q => (match Nat.beq o p, sAdd m i j with
    | true, some m' => capsM m' r q
    | _, _ => none)
  | _, _ => none
/-- a number of the pattern (a constant; or a constant and one unknown), and one that stands there -/
def matchI (m : MS) (a b : Lin) : Option MS := match a with
  | .c x => (match b with | .c y => guardO (ieq x y) m | _ => none)
  | .l n t => (match t with
    | [(v, k)] => (match ieq k 1 with
      | true => (match tLook m.th v with
        | none => some ⟨m.s, (v, b.sub (.c n)) :: m.th⟩
        | some L => guardO (linEq L (b.sub (.c n))) m)
      | false => none)
    | _ => none)
/-- a cell of the pattern, and one that stands there -/
def matchS (m : MS) (a b : SC) : Option MS := match a with
  | .bool x => (match b with | .bool y => guardO (boolEq x y) m | _ => none)
  | .int k x => (match b with | .int k' y => (match kindEq k k' with | true => matchI m x y | false => none) | _ => none)
  | .float .. => none
  | .cplx k x y => (match b with | .cplx k' x' y' => (match fkEq k k', Nat.beq x x', Nat.beq y y' with | true, true, true => some m | _, _, _ => none) | _ => none)
  | .str x => (match b with | .str y => guardO (strEq x y) m | _ => none)
  | .nilptr => (match b with | .nilptr => some m | _ => none)
  | .ptr i o => (match b with | .ptr j p => (match Nat.beq o p with | true => sAdd m i j | false => none) | _ => none)
  | .nilslice => (match b with | .nilslice => some m | _ => none)
  | .slice i o l c => (match b with
    | .slice j p k d => (match Nat.beq o p, Nat.beq l k, capEq c d with | true, true, true => sAdd m i j | _, _, _ => none)
    | _ => none)
  | .nilfunc => (match b with | .nilfunc => some m | _ => none)
  | .func f l => (match b with | .func g k => (match Nat.beq f g with | true => capsM m l k | false => none) | _ => none)
def matchL (a : List SC) : List SC → MS → Option MS :=
  List.rec (motive := fun _ => List SC → MS → Option MS)
    (fun b m => List.casesOn (motive := fun _ => Option MS) b (some m) (fun _ _ => none))
    (fun x _ ih b m => List.casesOn (motive := fun _ => Option MS) b none (fun y r => Option.rec (motive := fun _ => Option MS) none (fun m' => ih r m') (matchS m x y))) a
def match1 (m : MS) : V1 → V1 → Option MS
  | .sc a, .sc b => matchS m a b
  | .agg a, .agg b => matchL a b m
  | _, _ => none
def match1s (a : List V1) : List V1 → MS → Option MS :=
  List.rec (motive := fun _ => List V1 → MS → Option MS)
    (fun b m => List.casesOn (motive := fun _ => Option MS) b (some m) (fun _ _ => none))
    (fun x _ ih b m => List.casesOn (motive := fun _ => Option MS) b none (fun y r => Option.rec (motive := fun _ => Option MS) none (fun m' => ih r m') (match1 m x y))) a
def matchV (m : MS) : AV → AV → Option MS
  | .one a, .one b => match1 m a b
  | .tup a, .tup b => match1s a b m
  | _, _ => none
def matchR (m : MS) (a b : Row) : Option MS :=
  match Nat.beq a.elem b.elem, boolEq a.opn b.opn, bor a.ro (bnot b.ro) with
  | true, true, true => matchL a.cells b.cells m
  | _, _, _ => none
abbrev Rows_ := List (Nat × Row)
def matchH (h : Heap) (l : Rows_) : MS → Option MS :=
  List.rec (motive := fun _ => MS → Option MS) (fun m => some m)
    (fun x _ ih m => match sLook m.s x.1 with
      | none => none
      | some j => (match hget h j with
        | none => none
        | some r => Option.rec (motive := fun _ => Option MS) none ih (matchR m x.2 r))) l
def matchT (t : Tmps) (l : List (Nat × AV)) : MS → Option MS :=
  List.rec (motive := fun _ => MS → Option MS) (fun m => some m)
    (fun x _ ih m => match tget t x.1 with
      | none => none
      | some v => Option.rec (motive := fun _ => Option MS) none ih (matchV m x.2 v)) l
/-- each once -/
def nodupA (l : List Nat) : Bool :=
  List.rec (motive := fun _ => Bool) true (fun x r ih => Bool.rec (motive := fun _ => Bool) ih false (memN x r)) l
def fsts (s : Subst) : List Nat := List.rec (motive := fun _ => List Nat) [] (fun x _ ih => x.1 :: ih) s
def snds (s : Subst) : List Nat := List.rec (motive := fun _ => List Nat) [] (fun x _ ih => x.2 :: ih) s
def allLt (c : Nat) (l : List Nat) : Bool := List.rec (motive := fun _ => Bool) true (fun x _ ih => match Nat.blt x c with | true => ih | false => false) l
def initS (G : Nat) : Subst := Nat.rec (motive := fun _ => Subst) [] (fun g ih => (g, g) :: ih) G
/-- the unknowns stand within their bounds -/
def rngOk (B : Bnds) (th : Th) (Bt : Bnds) : Nat → Bool :=
  List.rec (motive := fun _ => Nat → Bool) (fun _ => true)
    (fun b _ ih v => match tLook th v with
      | none => false
      | some L => (match L.range B with
        | none => false
        | some (lo, hi) => (match ile b.1 lo, ile hi b.2 with | true, true => ih (Nat.succ v) | _, _ => false))) Bt
def msOk (B Bt : Bnds) (c0 : Nat) (m : MS) : Bool :=
  match nodupA (snds m.s), allLt c0 (fsts m.s), rngOk B m.th Bt 0 with
  | true, true, true => true
  | _, _, _ => false

/-! What comes of it, in the caller's numbers. -/
structure RN where
  m : MS
  /-- the pattern's new numbers begin here, the caller's there -/
  c0 : Nat
  c : Nat
def rnm (q : RN) (i : Nat) : Option Nat := match Nat.blt i q.c0 with
  | true => sLook q.m.s i
  | false => some (Nat.add q.c (Nat.sub i q.c0))
def mulTs (k : Int) : List (Nat × Int) → List (Nat × Int)
  | [] => []
  | (v, j) :: r => (v, Int.mul j k) :: mulTs k r
def Lin.mul (k : Int) : Lin → Lin
  | .c n => .c (Int.mul n k)
  | .l n t => .l (Int.mul n k) (mulTs k t)
def subTs (th : Th) : List (Nat × Int) → Option Lin
  | [] => some (.c 0)
  | (v, k) :: r => (match tLook th v, subTs th r with
    | some L, some M => some ((L.mul k).add M)
    | _, _ => none)
def subL (th : Th) : Lin → Option Lin
  | .c n => some (.c n)
  | .l n t => (match subTs th t with | some M => some ((Lin.c n).add M) | none => none)
def renP (q : RN) (l : List (Nat × Nat)) : Option (List (Nat × Nat)) :=
  List.rec (motive := fun _ => Option (List (Nat × Nat))) (some [])
    (fun x _ ih => match rnm q x.1 with | some j => (match ih with | some r => some ((j, x.2) :: r) | none => none) | none => none) l
def renS (q : RN) (a : SC) : Option SC := match a with
  | .int k n => (match subL q.m.th n with | some n' => some (.int k n') | none => none)
  | .ptr i o => (match rnm q i with | some j => some (.ptr j o) | none => none)
  | .slice i o l c => (match rnm q i with | some j => some (.slice j o l c) | none => none)
  | .func f l => (match renP q l with | some l' => some (.func f l') | none => none)
  | x => some x
def renL (q : RN) (l : List SC) : Option (List SC) :=
  List.rec (motive := fun _ => Option (List SC)) (some [])
    (fun x _ ih => match renS q x with | some y => (match ih with | some r => some (y :: r) | none => none) | none => none) l
def ren1 (q : RN) : V1 → Option V1
  | .sc a => (match renS q a with | some b => some (.sc b) | none => none)
  | .agg l => (match renL q l with | some m => some (.agg m) | none => none)
def ren1s (q : RN) (l : List V1) : Option (List V1) :=
  List.rec (motive := fun _ => Option (List V1)) (some [])
    (fun x _ ih => match ren1 q x with | some y => (match ih with | some r => some (y :: r) | none => none) | none => none) l
def renV (q : RN) : AV → Option AV
  | .one x => (match ren1 q x with | some y => some (.one y) | none => none)
  | .tup l => (match ren1s q l with | some m => some (.tup m) | none => none)
def renR (q : RN) (r : Row) : Option Row := match renL q r.cells with
  | some cs => some ⟨r.elem, r.opn, r.ro, cs⟩
  | none => none
/-- the rows that may be written are gone -/
def killW (s : Subst) (l : Rows_) : Heap → Option Heap :=
  List.rec (motive := fun _ => Heap → Option Heap) (fun h => some h)
    (fun x _ ih h => match x.2.ro with
      | true => ih h
      | false => (match sLook s x.1 with
        | none => none
        | some j => ih (hset h j none))) l
/-- the rows behind the call, renamed, laid over the heap -/
def layH (q : RN) (l : Rows_) : Heap → Option Heap :=
  List.rec (motive := fun _ => Heap → Option Heap) (fun h => some h)
    (fun x _ ih h => match rnm q x.1 with
      | none => none
      | some j => (match renR q x.2 with
        | none => none
        | some r => ih (hset h j (some r)))) l
def layT (q : RN) (l : List (Nat × AV)) : Option Tmps :=
  List.rec (motive := fun _ => Option Tmps) (some .leaf)
    (fun x _ ih => match renV q x.2 with
      | none => none
      | some v => (match ih with
        | none => none
        | some t => some (tset t x.1 v))) l
def trieOf (l : Rows_) : Heap := List.rec (motive := fun _ => Heap) .leaf (fun x _ ih => hset ih x.1 (some x.2)) l
def trieT (l : List (Nat × AV)) : Tmps := List.rec (motive := fun _ => Tmps) .leaf (fun x _ ih => tset ih x.1 x.2) l

/-- A call that is known: with these arguments, where these rows stand (each named ahead of where it is told), it answers 'out', and these rows stand ('hout': the new ones, and those that are written). -/
structure Memo where
  B : Bnds
  f : Nat
  args : List V1
  hin : Rows_
  c0 : Nat
  c1 : Nat
  hout : Rows_
  out : AV
def useMemo (X : Ctx) (m : Memo) (args : List V1) (h : Heap) (c : Nat) : OR :=
  match match1s m.args args ⟨initS X.G, []⟩ with
  | none => .bad
  | some s0 => (match matchH h m.hin s0 with
    | none => .bad
    | some s1 => (match msOk X.B m.B m.c0 s1, Nat.ble m.c0 m.c1 with
      | true, true => (match killW s1.s m.hin h with
        | none => .bad
        | some h1 => (match layH ⟨s1, m.c0, c⟩ m.hout h1, renV ⟨s1, m.c0, c⟩ m.out with
          | some h', some v => .val v h' (Nat.add c (Nat.sub m.c1 m.c0))
          | _, _ => .bad))
      | _, _ => .bad))
def orElse_ (r : OR) (k : OR) : OR := match r with | .bad => k | .val v h c => .val v h c
/-- the calls that are known, by their functions; else the function's own code -/
def useMemos (X : Ctx) (ms : List Memo) (f : Nat) (args : List V1) (h : Heap) (c : Nat) : OR :=
  List.rec (motive := fun _ => OR) .bad (fun m _ ih => match Nat.beq m.f f with
    | true => orElse_ (useMemo X m args h c) ih
    | false => ih) ms
def anyF (f : Nat) (ms : List Memo) : Bool := List.rec (motive := fun _ => Bool) false (fun m _ ih => match Nat.beq m.f f with | true => true | false => ih) ms
def evalM (X : Ctx) (ms : List Memo) (n : Nat) : CallF :=
  Nat.rec (motive := fun _ => CallF) (fun _ _ _ _ => .bad)
    (fun _ ih f => match anyF f ms with
      | true => fun args h c => orElse_ (useMemos X ms f args h c) (callStep X ih f args h c)
      | false => callStep X ih f) n

/-! Is what the evaluator answers what the pattern says? -/
def capsEq : List (Nat × Nat) → List (Nat × Nat) → Bool
  | [], [] => true
  | (i, o) :: r, (j, p) :: q => (match Nat.beq i j, Nat.beq o p with | true, true => capsEq r q | _, _ => false)
  | _, _ => false
def scEq (a b : SC) : Bool := match a with
  | .bool x => (match b with | .bool y => boolEq x y | _ => false)
  | .int k x => (match b with | .int k' y => (match kindEq k k' with | true => linEq x y | false => false) | _ => false)
  | .float .. => false
  | .cplx k x y => (match b with | .cplx k' x' y' => (match fkEq k k', Nat.beq x x', Nat.beq y y' with | true, true, true => true | _, _, _ => false) | _ => false)
  | .str x => (match b with | .str y => strEq x y | _ => false)
  | .nilptr => (match b with | .nilptr => true | _ => false)
  | .ptr i o => (match b with | .ptr j p => (match Nat.beq o p with | true => Nat.beq i j | false => false) | _ => false)
  | .nilslice => (match b with | .nilslice => true | _ => false)
  | .slice i o l c => (match b with
    | .slice j p k d => (match Nat.beq o p, Nat.beq l k, capEq c d with | true, true, true => Nat.beq i j | _, _, _ => false)
    | _ => false)
  | .nilfunc => (match b with | .nilfunc => true | _ => false)
  | .func f l => (match b with | .func g k => (match Nat.beq f g with | true => capsEq l k | false => false) | _ => false)
def scsEq (a : List SC) : List SC → Bool :=
  List.rec (motive := fun _ => List SC → Bool)
    (fun b => List.casesOn (motive := fun _ => Bool) b true (fun _ _ => false))
    (fun x _ ih b => List.casesOn (motive := fun _ => Bool) b false (fun y r => Bool.rec (motive := fun _ => Bool) false (ih r) (scEq x y))) a
def v1Eq : V1 → V1 → Bool
  | .sc a, .sc b => scEq a b
  | .agg a, .agg b => scsEq a b
  | _, _ => false
def v1sEq : List V1 → List V1 → Bool
  | [], [] => true
  | a :: r, b :: q => (match v1Eq a b with | true => v1sEq r q | false => false)
  | _, _ => false
def avEq : AV → AV → Bool
  | .one a, .one b => v1Eq a b
  | .tup a, .tup b => v1sEq a b
  | _, _ => false
def rowEq (a b : Row) : Bool := match Nat.beq a.elem b.elem, boolEq a.opn b.opn, boolEq a.ro b.ro with
  | true, true, true => scsEq a.cells b.cells
  | _, _, _ => false
def rowsEq (h : Heap) (l : Rows_) : Bool :=
  List.rec (motive := fun _ => Bool) true (fun x _ ih => match hget h x.1 with
    | none => false
    | some r => (match rowEq x.2 r with | true => ih | false => false)) l
def tmpsEq (t : Tmps) (l : List (Nat × AV)) : Bool :=
  List.rec (motive := fun _ => Bool) true (fun x _ ih => match tget t x.1 with
    | none => false
    | some r => (match avEq x.2 r with | true => ih | false => false)) l
def memoIs (m : Memo) (r : OR) : Bool := match r with
  | .bad => false
  | .val v h c => (match avEq m.out v, Nat.beq m.c1 c, rowsEq h m.hout with
    | true, true, true => true
    | _, _, _ => false)
def runMemo (X : Ctx) (ms : List Memo) (m : Memo) : Bool := memoIs m (evalM ⟨X.P, X.G, m.B⟩ ms 200 m.f m.args (trieOf m.hin) m.c0)
/-- the function's own code, the calls within it known ones -/
def runMemo' (X : Ctx) (ms : List Memo) (m : Memo) : Bool := memoIs m (callStep ⟨X.P, X.G, m.B⟩ (evalM ⟨X.P, X.G, m.B⟩ ms 200) m.f m.args (trieOf m.hin) m.c0)
end
end Go.Proofs.YtnnilbambpfhiaaGreatDoor.Ev
