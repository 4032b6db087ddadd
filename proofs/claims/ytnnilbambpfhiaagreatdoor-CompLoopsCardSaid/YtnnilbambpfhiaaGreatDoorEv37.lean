/-
  A call that is known: the run of the module, whatever it counts down from.
-/
import Derived.Test.YtnnilbambpfhiaaGreatDoorEv36
namespace Go.Proofs.YtnnilbambpfhiaaGreatDoor.Ev
open Go
set_option maxRecDepth 100000

noncomputable def soloK : Memo where
  B := [(0, 999)]
  f := 18
  args := [.agg [.str [112], .slice 1169 0 1 (.opn 0)], .sc (.int .i64 (.c 0)), .sc (.slice 1347 0 1 (.exact 1)), .sc (.nilslice), .sc (.int .i64 (.c 400))]
  hin := [(1169, ⟨73, true, true, [.str [102], .int .i64 (.c 1), .int .i64 (.c 1), .slice 1156 0 11 (.opn 0)]⟩),
  (1347, ⟨38, false, true, [.int .i64 (.c 3), .int .i64 (.l 0 [(0, 1)]), .cplx .f64 0 0, .str [], .int .i64 (.c 0), .int .i64 (.c 0), .nilslice]⟩),
  (1156, ⟨82, true, true, [.int .i64 (.c 4), .int .i64 (.c 0), .int .i64 (.c 0), .int .i64 (.c 0), .int .i64 (.c 0), .cplx .f64 0 0, .str [], .int .i64 (.c 0), .int .i64 (.c 0), .nilslice, .nilslice, .int .i64 (.c 1), .int .i64 (.c 0), .int .i64 (.c 0), .int .i64 (.c 3), .int .i64 (.c 0), .cplx .f64 0 0, .str [], .int .i64 (.c 0), .int .i64 (.c 0), .nilslice, .nilslice, .int .i64 (.c 14), .int .i64 (.c 0), .int .i64 (.c 0), .int .i64 (.c 0), .int .i64 (.c 0), .cplx .f64 0 0, .str [], .int .i64 (.c 0), .int .i64 (.c 0), .nilslice, .nilslice, .int .i64 (.c 26), .int .i64 (.c 9), .int .i64 (.c 0), .int .i64 (.c 0), .int .i64 (.c 0), .cplx .f64 0 0, .str [], .int .i64 (.c 0), .int .i64 (.c 0), .nilslice, .nilslice, .int .i64 (.c 4), .int .i64 (.c 0), .int .i64 (.c 0), .int .i64 (.c 0), .int .i64 (.c 0), .cplx .f64 0 0, .str [], .int .i64 (.c 0), .int .i64 (.c 0), .nilslice, .nilslice, .int .i64 (.c 1), .int .i64 (.c 0), .int .i64 (.c 0), .int .i64 (.c 3), .int .i64 (.c 1), .cplx .f64 0 0, .str [], .int .i64 (.c 0), .int .i64 (.c 0), .nilslice, .nilslice, .int .i64 (.c 7), .int .i64 (.c 0), .int .i64 (.c 0), .int .i64 (.c 0), .int .i64 (.c 0), .cplx .f64 0 0, .str [], .int .i64 (.c 0), .int .i64 (.c 0), .nilslice, .nilslice, .int .i64 (.c 5), .int .i64 (.c 0), .int .i64 (.c 0), .int .i64 (.c 0), .int .i64 (.c 0), .cplx .f64 0 0, .str [], .int .i64 (.c 0), .int .i64 (.c 0), .nilslice, .nilslice, .int .i64 (.c 25), .int .i64 (.c 0), .int .i64 (.c 0), .int .i64 (.c 0), .int .i64 (.c 0), .cplx .f64 0 0, .str [], .int .i64 (.c 0), .int .i64 (.c 0), .nilslice, .nilslice, .int .i64 (.c 1), .int .i64 (.c 0), .int .i64 (.c 0), .int .i64 (.c 5), .int .i64 (.c 0), .cplx .f64 0 0, .str [100, 111, 110, 101], .int .i64 (.c 0), .int .i64 (.c 0), .nilslice, .nilslice, .int .i64 (.c 29), .int .i64 (.c 0), .int .i64 (.c 0), .int .i64 (.c 0), .int .i64 (.c 0), .cplx .f64 0 0, .str [], .int .i64 (.c 0), .int .i64 (.c 0), .nilslice, .nilslice]⟩)]
  c0 := 1350
  c1 := 4001548
  hout := []
  out := .tup [.agg [.int .i64 (.c 3), .int .i64 (.c 5), .int .i64 (.c 0), .cplx .f64 0 0, .str [100, 111, 110, 101], .int .i64 (.c 0), .int .i64 (.c 0), .nilslice, .nilslice, .nilslice, .int .i64 (.c 0)], .sc (.int .i64 (.l 6 [(0, 9)])), .sc (.int .i64 (.c 0))]
theorem has18 : (Tryz.prog.funcs[18]?).isSome = true := by kernel_rfl
noncomputable def fn18 : Func := (Tryz.prog.funcs[18]?).get has18
theorem get18 : Tryz.prog.funcs[18]? = some fn18 := (Option.some_get has18).symm
theorem nt18 : fn18.ntmps = 116 := by kernel_rfl
theorem body18_isSome : fn18.body.isSome = true := by kernel_rfl
theorem solo_runs : memoIs soloK (fnHk (XR bK) (callR bK) fn18 (hk18 bK) path18 (argTmps 0 soloK.args .leaf) (trieOf soloK.hin) soloK.c0) = true := by kernel_rfl
theorem soloK_ok : MemoOk Tryz.prog 5 soloK :=
  memo_of_hk (P := Tryz.prog) (G := 5) (m := soloK) hnum (callR_ok bK) hmix get18 body18_isSome (by rw [nt18]; decide) (by rw [nt18]; exact hk18_ok) at18 solo_runs
end Go.Proofs.YtnnilbambpfhiaaGreatDoor.Ev
