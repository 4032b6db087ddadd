/-
  The program itself: what the evaluator wants of it.
-/
import Derived.Test.YtnnilbambpfhiaaGreatDoorEv20
import Derived.Test.YtnnilbambpfhiaaGreatDoorProg
import Derived.KernelRfl
namespace Go.Proofs.YtnnilbambpfhiaaGreatDoor.Ev
open Go
set_option maxRecDepth 100000

theorem allNames : (Tryz.prog.funcs.toList.all fun fn => (fn.name == "runtime.NumGoroutine") == false) = true := by kernel_rfl
theorem hnum : NoNum Tryz.prog := by
  intro f fn h
  have hm : fn ∈ Tryz.prog.funcs.toList := Array.mem_toList_iff.2 (Array.mem_of_getElem? h)
  have := List.all_eq_true.1 allNames fn hm
  simpa using this
theorem hmix : Tryz.prog.follows .mixedOrders = true := by kernel_rfl

/-- the table that strings.Fields asks of a byte whether it is a space -/
def spCell (i : Nat) : SC := .int .u8 (.c (match Nat.ble 9 i && Nat.ble i 13 || Nat.beq i 32 with | true => 1 | false => 0))
noncomputable def upTo (f : Nat → SC) : Nat → List SC → List SC :=
  Nat.rec (motive := fun _ => List SC → List SC) (fun acc => acc) (fun n ih acc => ih (f n :: acc))
noncomputable def spR : Row := ⟨162, false, true, upTo spCell 256 []⟩

def Known (ms : List Memo) : Prop := ∀ m, m ∈ ms → MemoOk Tryz.prog 5 m
theorem Known.nil : Known [] := fun _ h => by cases h
theorem Known.cons {m : Memo} {ms : List Memo} (h : MemoOk Tryz.prog 5 m) (hs : Known ms) : Known (m :: ms) := fun x hx => by
  rcases List.mem_cons.1 hx with rfl | hx
  · exact h
  · exact hs x hx
/-- One more call that is known. -/
theorem Known.run {ms : List Memo} (hs : Known ms) (m : Memo) (h : runMemo ⟨Tryz.prog, 5, []⟩ ms m = true) : MemoOk Tryz.prog 5 m := memo_ok hnum hmix hs m [] h
end Go.Proofs.YtnnilbambpfhiaaGreatDoor.Ev
