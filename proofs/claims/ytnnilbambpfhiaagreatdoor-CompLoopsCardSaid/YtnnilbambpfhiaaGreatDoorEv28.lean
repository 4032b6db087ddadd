/-
  A loop that is known: definitions alone.
-/
import Derived.Test.YtnnilbambpfhiaaGreatDoorEv3
namespace Go.Proofs.YtnnilbambpfhiaaGreatDoor.Ev
open Go
noncomputable section

/-! A piece of code with another way through one of its pieces. -/
def codeHk (X : Ctx) (callF : CallF) (nt : Nat) (hk : Tmps → Heap → Nat → R) : List Bool → Code → Tmps → Heap → Nat → R
  | [], _ => hk
  | x :: p, cd => (match cd with
    | .seq a b => (match x with
      | true => fun t h c => (match codeHk X callF nt hk p a t h c with
        | .ok .normal t' h' c' => codeA X callF nt 400 b t' h' c'
        | r => r)
      | false => fun t h c => (match codeA X callF nt 400 a t h c with
        | .ok .normal t' h' c' => codeHk X callF nt hk p b t' h' c'
        | r => r))
    | .block id b => fun t h c => (match codeHk X callF nt hk p b t h c with
      | .ok (.exit j) t' h' c' => (match Nat.beq j id with
        | true => .ok .normal t' h' c'
        | false => .ok (.exit j) t' h' c')
      | r => r)
    | _ => fun _ _ _ => .bad)
def codeAt : List Bool → Code → Option Code
  | [], cd => some cd
  | x :: p, cd => (match cd with
    | .seq a b => (match x with | true => codeAt p a | false => codeAt p b)
    | .block _ b => codeAt p b
    | _ => none)
def fnHk (X : Ctx) (callF : CallF) (fn : Func) (hk : Tmps → Heap → Nat → R) (p : List Bool) (t : Tmps) (h : Heap) (c : Nat) : OR :=
  match fn.body with
  | some b => (match codeHk X callF fn.ntmps hk p b t h c with
    | .ok .normal t h' c' => endA X fn.results.toList t h' c'
    | .ok .ret t h' c' => endA X fn.results.toList t h' c'
    | _ => .bad)
  | none => .bad
def bodyOf (P : Program) (f : Nat) : Code := match P.funcs[f]? with
  | some fn => (match fn.body with | some b => b | none => .skip)
  | none => .skip
def loopAt (P : Program) (f : Nat) (p : List Bool) : Code := match codeAt p (bodyOf P f) with
  | some (.loop b) => b
  | _ => .skip

/-! States. -/
/-- what stands: slots, rows; the next number -/
structure Tm where
  tin : List (Nat × AV)
  hin : Rows_
  c0 : Nat
def thEq : Th → Th → Bool
  | [], [] => true
  | (v, a) :: r, (u, b) :: q => (match Nat.beq v u, linEq a b with | true, true => thEq r q | _, _ => false)
  | _, _ => false
/-- the state A1 stands within t, h; and what A1's end 'F' is in the numbers of t, h is F again -/
def meets (X : Ctx) (A1 F : Tm) (th0 th1 : Th) (t : Tmps) (h : Heap) (c : Nat) : Bool :=
  match matchT t A1.tin ⟨initS X.G, th0⟩ with
  | none => false
  | some m1 => (match matchH h A1.hin m1 with
    | none => false
    | some m => (match nodupA (snds m.s), allLt A1.c0 (fsts m.s), thEq m.th th1, killW m.s A1.hin h with
      | true, true, true, some h1 => (match layH ⟨m, A1.c0, c⟩ F.hin h1, layT ⟨m, A1.c0, c⟩ F.tin with
        | some h2, some t2 => (match rowsEq h2 F.hin with | true => tmpsEq t2 F.tin | false => false)
        | _, _ => false)
      | _, _, _, _ => false))
/-- one round of the loop, from A to A1, by no more than d new numbers -/
def roundIs (X : Ctx) (callF : CallF) (nt : Nat) (b : Code) (A A1 F : Tm) (th0 th1 : Th) (d : Nat) : Bool :=
  match codeA X callF nt 400 b (trieT A.tin) (trieOf A.hin) A.c0 with
  | .ok .normal t h c => (match Nat.ble c (Nat.add A.c0 d) with
    | true => meets X A1 F th0 th1 t h c
    | false => false)
  | _ => false
/-- the loop's last rounds (four at most) -/
def lastIs (X : Ctx) (callF : CallF) (nt : Nat) (b : Code) (A F : Tm) (ex i : Nat) (L : Lin) (d : Nat) : Bool :=
  match rounds2 (codeA X callF nt 400 b) 2 (trieT A.tin) (trieOf A.hin) A.c0 with
  | .done (.ok (.exit j) t h c) => (match Nat.beq j ex, Nat.ble c (Nat.add A.c0 d), rowsEq h F.hin, tmpsEq t F.tin, tget t i with
    | true, true, true, true, some (.one (.sc (.int .i64 M))) => linEq M L
    | _, _, _, _, _ => false)
  | _ => false
/-- the way through the loop: from where A stands -/
def loopHk (X : Ctx) (A F : Tm) (th0 th1 : Th) (ex D : Nat) (t : Tmps) (h : Heap) (c : Nat) : R :=
  match matchT t A.tin ⟨initS X.G, th0⟩ with
  | none => .bad
  | some m1 => (match matchH h A.hin m1 with
    | none => .bad
    | some m => (match nodupA (snds m.s), allLt A.c0 (fsts m.s), thEq m.th th1, killW m.s A.hin h with
      | true, true, true, some h1 => (match layH ⟨m, A.c0, c⟩ F.hin h1, layT ⟨m, A.c0, c⟩ F.tin with
        | some h2, some t2 => .ok (.exit ex) t2 h2 (Nat.add c D)
        | _, _ => .bad)
      | _, _, _, _ => .bad))
end
end Go.Proofs.YtnnilbambpfhiaaGreatDoor.Ev
