/-
  The evaluator: regions that draw their order, the code, the calls. Definitions alone.
-/
import Derived.Test.YtnnilbambpfhiaaGreatDoorEv1
namespace Go.Proofs.YtnnilbambpfhiaaGreatDoor.Ev
open Go
noncomputable section

/-! A region that draws its order: what is known of it without the state (its plan). -/
inductive HK where
  | no | rd | wr | call
def kindOf : Op → HK
  | .load .. | .slice .. => .rd
  | .store .. | .alloc .. | .box .. | .buildSlice .. | .makeSlice .. => .wr
  | .call cl => (match cl.callee with
    | .builtin .append => .wr
    | .builtin .len | .builtin .max | .builtin .min | .builtin .real | .builtin .imag => .no
    | _ => .call)
  | _ => .no
def HK.isCall : HK → Bool | .call => true | _ => false
/-- may two operations meet in memory? -/
def HK.meet : HK → HK → Bool
  | .no, _ => false
  | _, .no => false
  | .rd, .rd => false
  | _, _ => true

def memN (n : Nat) (l : List Nat) : Bool :=
  List.rec (motive := fun _ => Bool) false (fun x _ ih => Bool.rec (motive := fun _ => Bool) ih true (Nat.beq x n)) l
def disj (a l : List Nat) : Bool :=
  List.rec (motive := fun _ => Bool) true (fun x _ ih => Bool.rec (motive := fun _ => Bool) ih false (memN x l)) a
/-- a bit of a mask -/
def bit (m i : Nat) : Bool := Nat.beq (Nat.land (Nat.shiftRight m i) 1) 1
def one_ (i : Nat) : Nat := Nat.shiftLeft 1 i

def edgesOf (o : Oper) : List Nat := (o.after.toList.filter fun e => Region.binds .any e).map (·.on)
def orAll (b : List Nat) : List Nat → Nat
  | [] => 0
  | e :: r => Nat.lor (Nat.lor (one_ e) (b.getD e 0)) (orAll b r)
/-- of each operation which ones stand ahead of it -/
def befores : List Oper → List Nat → List Nat
  | [], acc => acc
  | o :: r, acc => befores r (acc ++ [orAll acc (edgesOf o)])

def tmpsOf (l : List Operand) : List Nat := l.filterMap fun | .tmp t => some t | _ => none
/-- the slots that an operation looks at -/
def looks (ops : Array Oper) (o : Oper) : List Nat :=
  tmpsOf o.op.operands.toList ++ (match o.guard with
    | some (g, _) => (match ops[g]? with | some x => (match x.dst with | some d => [d] | none => []) | none => [])
    | none => [])
def dsts (o : Oper) : List Nat := match o.dst with | some d => [d] | none => []
def slotsApart (ops : Array Oper) (x y : Oper) : Bool :=
  match disj (dsts x) (looks ops y), disj (dsts x) (dsts y), disj (dsts y) (looks ops x) with
  | true, true, true => true
  | _, _, _ => false

structure PI where
  i : Nat
  o : Oper
  /-- the elder ones that are in no order with it, and may meet it in memory -/
  conf : List Nat
def nthO : List Oper → Nat → Option Oper
  | [], _ => none
  | x :: _, 0 => some x
  | _ :: r, n + 1 => nthO r n

/-- the first that may come, no call if there is one that is none -/
def pick (ops : List Oper) (b : List Nat) (done : Nat) (call : Bool) : Nat → List Oper → Option Nat
  | _, [] => none
  | i, o :: r => (match bit done i, Nat.beq (Nat.land (b.getD i 0) done) (b.getD i 0), (match call with | true => true | false => bnot (kindOf o.op).isCall) with
    | false, true, true => some i
    | _, _, _ => pick ops b done call (i + 1) r)
def orderGo (ops : List Oper) (b : List Nat) : Nat → Nat → List Nat
  | 0, _ => []
  | f + 1, done => (match pick ops b done false 0 ops with
    | some i => i :: orderGo ops b f (Nat.lor done (one_ i))
    | none => (match pick ops b done true 0 ops with
      | some i => i :: orderGo ops b f (Nat.lor done (one_ i))
      | none => []))
/-- of an operation, against those ahead of it in the plan: the ones that may meet it; none: its slots are not apart from one's, or a call stands among them -/
def confOf (ops : Array Oper) (b : Nat) (o : Oper) : List PI → Option (List Nat)
  | [] => some []
  | p :: r => (match confOf ops b o r with
    | none => none
    | some l => (match bit b p.i with
      | true => some l
      | false => (match slotsApart ops p.o o with
        | false => none
        | true => (match (kindOf p.o.op).meet (kindOf o.op) with
          | false => some l
          | true => (match (kindOf p.o.op).isCall with | true => none | false => some (p.i :: l))))))
def planGo (ops : Array Oper) (b : List Nat) : List Nat → List PI → Option (List PI)
  | [], acc => some acc
  | i :: r, acc => (match nthO ops.toList i with
    | none => none
    | some o => (match confOf ops (b.getD i 0) o acc with
      | none => none
      | some l => planGo ops b r (⟨i, o, l⟩ :: acc)))
/-- The plan, the last one first. -/
def planOf (ops : Array Oper) : Option (List PI) :=
  let b := befores ops.toList []
  planGo ops b (orderGo ops.toList b ops.toList.length 0) []
def revP : List PI → List PI → List PI
  | [], acc => acc
  | x :: r, acc => revP r (x :: acc)
/-- the operations' numbers, each once, none too many; each behind those that it hangs on -/
def topo (b : List Nat) : List PI → Nat → Bool
  | [], _ => true
  | p :: r, done => (match bit done p.i, Nat.beq (Nat.land (b.getD p.i 0) done) (b.getD p.i 0) with
    | false, true => topo b r (Nat.lor done (one_ p.i))
    | _, _ => false)
def bOk (b : List Nat) : List Oper → Nat → Bool
  | [], _ => true
  | o :: r, i => (match Nat.beq (b.getD i 0) (orAll b (edgesOf o)), (edgesOf o).all (fun e => Nat.blt e i) with
    | true, true => bOk b r (i + 1)
    | _, _ => false)
def covers (l : List PI) (n : Nat) : Bool := (List.range n).all fun i => l.any fun p => Nat.beq p.i i
def planned (ops : Array Oper) : Option (List PI) :=
  match planOf ops with
  | none => none
  | some l => (match Nat.beq l.length ops.toList.length, topo (befores ops.toList []) (revP l []) 0, bOk (befores ops.toList []) ops.toList 0, covers (revP l []) ops.toList.length with
    | true, true, true, true => some (revP l [])
    | _, _, _, _ => none)

/-! The region's run. -/
abbrev Foot := List Nat × List Nat
def footA (X : Ctx) (op : Op) (t : Tmps) : Option Foot := match op with
  | .load _ a => (match opdS X.G a t with | some (.ptr id _) => some ([id], []) | _ => none)
  | .store _ a _ => (match opdS X.G a t with | some (.ptr id _) => some ([], [id]) | _ => none)
  | .slice _ x _ _ _ => (match opdS X.G x t with | some (.slice id _ _ (.opn _)) => some ([id], []) | _ => some ([], []))
  | .call cl => (match cl.callee, cl.args.toList with
    | .builtin .append, [s, x] => (match opdS X.G s t, opdS X.G x t with
      | some s, some x => some ((match x with | .slice id .. => [id] | _ => []), (match s with | .slice id .. => [id] | _ => []))
      | _, _ => none)
    | _, _ => some ([], []))
  | _ => some ([], [])
def roRow (r : Row) : Row := ⟨r.elem, r.opn, true, r.cells⟩
def hide (l : List Nat) (h : Heap) : Heap :=
  List.rec (motive := fun _ => Heap) h (fun id _ ih => hset ih id none) l
/-- the rows of some numbers: they are not to be written -/
def sealR (l : List Nat) (h : Heap) : Heap :=
  List.rec (motive := fun _ => Heap) h (fun id _ ih => match hget ih id with
    | some x => hset ih id (some (roRow x))
    | none => ih) l
/-- the rows of some numbers, as they stand in h, laid over another heap -/
def lift (h : Heap) (l : List Nat) (g : Heap) : Heap :=
  List.rec (motive := fun _ => Heap) g (fun id _ ih => hset ih id (hget h id)) l
def restr (h : Heap) (f : Foot) : Heap := lift h f.2 (sealR f.1 (lift h f.1 .leaf))

abbrev Foots := List (Nat × Foot)
def footOf (fs : Foots) (i : Nat) : Option Foot :=
  List.rec (motive := fun _ => Option Foot) none (fun x _ ih => Bool.rec (motive := fun _ => Option Foot) ih (some x.2) (Nat.beq x.1 i)) fs
def free (fs : Foots) (f : Foot) (l : List Nat) : Bool :=
  List.rec (motive := fun _ => Bool) true (fun i _ ih => match footOf fs i with
    | none => false
    | some g => (match disj g.2 f.1, disj g.2 f.2, disj f.2 g.1 with
      | true, true, true => ih
      | _, _, _ => false)) l
def readsOf (fs : Foots) (l : List Nat) : Option (List Nat) :=
  List.rec (motive := fun _ => Option (List Nat)) (some []) (fun i _ ih => match footOf fs i, ih with | some g, some l => some (g.1 ++ l) | _, _ => none) l
def writesOf (fs : Foots) (l : List Nat) : Option (List Nat) :=
  List.rec (motive := fun _ => Option (List Nat)) (some []) (fun i _ ih => match footOf fs i, ih with | some g, some l => some (g.2 ++ l) | _, _ => none) l

inductive RD where
  | bad
  | ok (t : Tmps) (h : Heap) (c : Nat) (fs : Foots)
def finD (nt : Nat) (dst : Option Tmp) (v : AV) (t : Tmps) (h : Heap) (c : Nat) (fs : Foots) : RD :=
  match putA nt dst v t with | some t' => .ok t' h c fs | none => .bad
/-- what an operation may touch, by its kind -/
def fits (k : HK) (f : Foot) (c c' : Nat) : Bool := match k with
  | .no => (match f.1, f.2 with | [], [] => Nat.beq c' c | _, _ => false)
  | .rd => (match f.2 with | [] => Nat.beq c' c | _ => false)
  | .wr => true
  | .call => false
/-- the slots that are looked at -/
def liftT (t : Tmps) (l : List Nat) : Tmps :=
  List.rec (motive := fun _ => Tmps) .leaf (fun i _ ih => match tget t i with | some v => tset ih i v | none => ih) l
/-- one operation of a region that draws -/
def drawOne (X : Ctx) (callF : CallF) (nt : Nat) (ops : Array Oper) (p : PI) (t : Tmps) (h : Heap) (c : Nat) (fs : Foots) : RD :=
  match wantedA (guardOf ops p.o) (liftT t (looks ops p.o)) with
  | none => .bad
  | some false => finD nt p.o.dst .undef t h c ((p.i, ([], [])) :: fs)
  | some true => match (kindOf p.o.op).isCall with
    | false => (match footA X p.o.op t with
      | none => .bad
      | some f => (match opA X callF p.o.op (liftT t (looks ops p.o)) (restr h f) c with
        | .bad => .bad
        | .val v h' c' => (match fits (kindOf p.o.op) f c c', Nat.beq c' c, free fs f p.conf with
          | true, true, true => finD nt p.o.dst v t (lift h' f.2 h) c ((p.i, f) :: fs)
          | true, false, true => (match Nat.beq c' (Nat.succ c), free fs ([], [c]) p.conf, hget h c with
            | true, true, none => finD nt p.o.dst v t (lift h' (c :: f.2) h) c' ((p.i, (f.1, c :: f.2)) :: fs)
            | _, _, _ => .bad)
          | _, _, _ => .bad)))
    | true => (match writesOf fs p.conf, readsOf fs p.conf with
      | some ws, some rs => (match opA X callF p.o.op (liftT t (looks ops p.o)) (sealR rs (hide ws h)) c with
        | .bad => .bad
        | .val v h' c' => (match Nat.ble c c' with
          | true => finD nt p.o.dst v t (lift h (ws ++ rs) h') c' ((p.i, ([], [])) :: fs)
          | false => .bad))
      | _, _ => .bad)
def RD.bind (r : RD) (k : Tmps → Heap → Nat → Foots → RS) : RS := RD.rec (motive := fun _ => RS) .bad k r
def drawA (X : Ctx) (callF : CallF) (nt : Nat) (ops : Array Oper) (l : List PI) : Tmps → Heap → Nat → Foots → RS :=
  List.rec (motive := fun _ => Tmps → Heap → Nat → Foots → RS) (fun t h c _ => .ok t h c)
    (fun p _ ih t h c fs => (drawOne X callF nt ops p t h c fs).bind ih) l

def regionA (X : Ctx) (callF : CallF) (nt : Nat) (ops : Array Oper) (draw : Bool) : Tmps → Heap → Nat → RS :=
  match draw with
  | false => seqA X callF nt ops ops.toList
  | true => (match planned ops with
    | some l => fun t h c => drawA X callF nt ops l t h c []
    | none => fun _ _ _ => .bad)

/-! The code. -/
inductive Ex where
  | normal
  | exit (id : Nat)
  | goto (l : Nat)
  | ret
inductive R where
  | bad
  | ok (e : Ex) (t : Tmps) (h : Heap) (c : Nat)
inductive It where
  | more (t : Tmps) (h : Heap) (c : Nat)
  | done (r : R)
/-- 2^k rounds of a loop's body -/
def rounds2 (body : Tmps → Heap → Nat → R) (k : Nat) : Tmps → Heap → Nat → It :=
  Nat.rec (motive := fun _ => Tmps → Heap → Nat → It)
    (fun t h c => match body t h c with
      | .ok .normal t' h' c' => .more t' h' c'
      | r => .done r)
    (fun _ ih t h c => match ih t h c with
      | .more t' h' c' => ih t' h' c'
      | d => d) k
def ofRS : RS → R
  | .bad => .bad
  | .ok t h c => .ok .normal t h c
def loopA (body : Tmps → Heap → Nat → R) (t : Tmps) (h : Heap) (c : Nat) : R :=
  match rounds2 body 14 t h c with
  | .more .. => .bad
  | .done r => r

inductive ItS where
  | more (cd : Code) (t : Tmps) (h : Heap) (c : Nat)
  | done (r : R)
/-- 2^k jumps within a scope -/
def jumps2 (run : Code → Tmps → Heap → Nat → R) (b : Code) (k : Nat) : Code → Tmps → Heap → Nat → ItS :=
  Nat.rec (motive := fun _ => Code → Tmps → Heap → Nat → ItS)
    (fun cd t h c => match run cd t h c with
      | .ok (.goto l) t' h' c' => (match findLabel b l with
        | some rest => .more rest t' h' c'
        | none => .done (.ok (.goto l) t' h' c'))
      | r => .done r)
    (fun _ ih cd t h c => match ih cd t h c with
      | .more cd' t' h' c' => ih cd' t' h' c'
      | d => d) k
def scopeA (run : Code → Tmps → Heap → Nat → R) (b : Code) (t : Tmps) (h : Heap) (c : Nat) : R :=
  match jumps2 run b 14 b t h c with
  | .more .. => .bad
  | .done r => r

/-- one piece of code, the pieces within it by 'run' -/
def codeStep (X : Ctx) (callF : CallF) (nt : Nat) (run : Code → Tmps → Heap → Nat → R) (cd : Code) : Tmps → Heap → Nat → R :=
  match cd with
  | .skip => fun t h c => .ok .normal t h c
  | .label _ => fun t h c => .ok .normal t h c
  | .region _ ops d => fun t h c => ofRS (regionA X callF nt ops d t h c)
  | .seq a b => fun t h c => (match run a t h c with
    | .ok .normal t' h' c' => run b t' h' c'
    | r => r)
  | .cond x a b => fun t h c => (match opdS X.G x t with
    | some (.bool true) => run a t h c
    | some (.bool false) => run b t h c
    | _ => .bad)
  | .block id b => fun t h c => (match run b t h c with
    | .ok (.exit j) t' h' c' => (match Nat.beq j id with
      | true => .ok .normal t' h' c'
      | false => .ok (.exit j) t' h' c')
    | r => r)
  | .loop b => fun t h c => loopA (run b) t h c
  | .exit id => fun t h c => .ok (.exit id) t h c
  | .goto l => fun t h c => .ok (.goto l) t h c
  | .scope b => fun t h c => scopeA run b t h c
  | .ret => fun t h c => .ok .ret t h c
  | _ => fun _ _ _ => .bad
def codeA (X : Ctx) (callF : CallF) (nt : Nat) (n : Nat) : Code → Tmps → Heap → Nat → R :=
  Nat.rec (motive := fun _ => Code → Tmps → Heap → Nat → R) (fun _ _ _ _ => .bad) (fun _ ih => codeStep X callF nt ih) n

/-! Calls. -/
def argTmps (i : Nat) (l : List V1) (t : Tmps) : Tmps :=
  List.rec (motive := fun _ => Nat → Tmps → Tmps) (fun _ t => t) (fun v _ ih i t => ih (Nat.succ i) (tset t i (.one v))) l i t
def resA (X : Ctx) (t : Tmps) (h : Heap) : ResultVar → Option V1
  | .tmp i => (match tget t i with | some (.one v) => some v | _ => none)
  | .cell a ty => (match lay X.P ty, tget t a with
    | some (g, n), some (.one (.sc (.ptr id off))) => loadA g n id off h
    | _, _ => none)
def ressA (X : Ctx) (t : Tmps) (h : Heap) (l : List ResultVar) : Option (List V1) :=
  List.rec (motive := fun _ => Option (List V1)) (some []) (fun r _ ih => match resA X t h r, ih with | some v, some vs => some (v :: vs) | _, _ => none) l
def tupOf : List V1 → AV
  | [v] => .one v
  | vs => .tup vs
def endA (X : Ctx) (rs : List ResultVar) (t : Tmps) (h : Heap) (c : Nat) : OR := match ressA X t h rs with
  | some vs => .val (tupOf vs) h c
  | none => .bad
def fnA (X : Ctx) (callF : CallF) (fn : Func) (args : List V1) (h : Heap) (c : Nat) : OR :=
  match fn.body, Nat.ble args.length fn.ntmps with
  | some b, true => (match codeA X callF fn.ntmps 400 b (argTmps 0 args .leaf) h c with
    | .ok .normal t h' c' => endA X fn.results.toList t h' c'
    | .ok .ret t h' c' => endA X fn.results.toList t h' c'
    | _ => .bad)
  | _, _ => .bad
def callStep (X : Ctx) (callF : CallF) (f : Nat) : List V1 → Heap → Nat → OR := match X.P.funcs[f]? with
  | some fn => fnA X callF fn
  | none => fun _ _ _ => .bad
def evalA (X : Ctx) (n : Nat) : CallF :=
  Nat.rec (motive := fun _ => CallF) (fun _ _ _ _ => .bad) (fun _ ih => callStep X ih) n
end
end Go.Proofs.YtnnilbambpfhiaaGreatDoor.Ev
