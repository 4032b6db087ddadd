/-
  Calls that are known: is this a name?
-/
import Derived.Test.YtnnilbambpfhiaaGreatDoorEv22
namespace Go.Proofs.YtnnilbambpfhiaaGreatDoor.Ev
open Go
set_option maxRecDepth 100000

noncomputable def isP : Memo where
  B := []
  f := 20
  args := [.sc (.str [112])]
  hin := [(0, spR)]
  c0 := 5
  c1 := 113
  hout := []
  out := .one (.sc (.bool true))
theorem isP_ok : MemoOk Tryz.prog 5 isP := Known.run (ms := [words]) (.cons words_ok (.nil)) isP (by kernel_rfl)

noncomputable def isF : Memo where
  B := []
  f := 20
  args := [.sc (.str [102])]
  hin := [(0, spR)]
  c0 := 5
  c1 := 113
  hout := []
  out := .one (.sc (.bool true))
theorem isF_ok : MemoOk Tryz.prog 5 isF := Known.run (ms := [words]) (.cons words_ok (.nil)) isF (by kernel_rfl)

noncomputable def isN : Memo where
  B := []
  f := 20
  args := [.sc (.str [110])]
  hin := [(0, spR)]
  c0 := 5
  c1 := 113
  hout := []
  out := .one (.sc (.bool true))
theorem isN_ok : MemoOk Tryz.prog 5 isN := Known.run (ms := [words]) (.cons words_ok (.nil)) isN (by kernel_rfl)

end Go.Proofs.YtnnilbambpfhiaaGreatDoor.Ev
