/-
  Calls that are known: the module's check.
-/
import Derived.Test.YtnnilbambpfhiaaGreatDoorEv23
namespace Go.Proofs.YtnnilbambpfhiaaGreatDoor.Ev
open Go
set_option maxRecDepth 100000

noncomputable def chk : Memo where
  B := []
  f := 11
  args := [.agg [.str [112], .slice 113 0 1 (.exact 1)]]
  hin := [(0, spR),
  (113, ⟨57, false, true, [.str [102], .slice 112 0 1 (.exact 1), .int .i64 (.c 5), .str [], .int .i64 (.c 0), .int .i64 (.c 0), .int .i64 (.c 0), .cplx .f64 0 0, .str [], .int .i64 (.c 0), .int .i64 (.c 0), .nilslice, .nilslice, .slice 111 0 3 (.exact 3)]⟩),
  (112, ⟨9, false, true, [.str [110]]⟩),
  (111, ⟨55, false, true, [.int .i64 (.c 6), .str [], .int .i64 (.c 14), .int .i64 (.c 0), .int .i64 (.c 0), .cplx .f64 0 0, .str [], .int .i64 (.c 0), .int .i64 (.c 0), .nilslice, .nilslice, .slice 107 0 2 (.exact 2), .int .i64 (.c 1), .str [], .int .i64 (.c 0), .int .i64 (.c 5), .int .i64 (.c 0), .cplx .f64 0 0, .str [100, 111, 110, 101], .int .i64 (.c 0), .int .i64 (.c 0), .nilslice, .nilslice, .nilslice, .int .i64 (.c 7), .str [102], .int .i64 (.c 0), .int .i64 (.c 0), .int .i64 (.c 0), .cplx .f64 0 0, .str [], .int .i64 (.c 0), .int .i64 (.c 0), .nilslice, .nilslice, .slice 108 0 1 (.exact 1)]⟩),
  (107, ⟨55, false, true, [.int .i64 (.c 2), .str [110], .int .i64 (.c 0), .int .i64 (.c 0), .int .i64 (.c 0), .cplx .f64 0 0, .str [], .int .i64 (.c 0), .int .i64 (.c 0), .nilslice, .nilslice, .nilslice, .int .i64 (.c 1), .str [], .int .i64 (.c 0), .int .i64 (.c 3), .int .i64 (.c 0), .cplx .f64 0 0, .str [], .int .i64 (.c 0), .int .i64 (.c 0), .nilslice, .nilslice, .nilslice]⟩),
  (108, ⟨55, false, true, [.int .i64 (.c 6), .str [], .int .i64 (.c 7), .int .i64 (.c 0), .int .i64 (.c 0), .cplx .f64 0 0, .str [], .int .i64 (.c 0), .int .i64 (.c 0), .nilslice, .nilslice, .slice 104 0 2 (.exact 2)]⟩),
  (104, ⟨55, false, true, [.int .i64 (.c 2), .str [110], .int .i64 (.c 0), .int .i64 (.c 0), .int .i64 (.c 0), .cplx .f64 0 0, .str [], .int .i64 (.c 0), .int .i64 (.c 0), .nilslice, .nilslice, .nilslice, .int .i64 (.c 1), .str [], .int .i64 (.c 0), .int .i64 (.c 3), .int .i64 (.c 1), .cplx .f64 0 0, .str [], .int .i64 (.c 0), .int .i64 (.c 0), .nilslice, .nilslice, .nilslice]⟩)]
  c0 := 114
  c1 := 969
  hout := []
  out := .tup [.sc (.int .i64 (.c 0)), .sc (.int .i64 (.c 0))]
theorem chk_ok : MemoOk Tryz.prog 5 chk := Known.run (ms := [words, isP, isF, isN]) (.cons words_ok (.cons isP_ok (.cons isF_ok (.cons isN_ok (.nil))))) chk (by kernel_rfl)

end Go.Proofs.YtnnilbambpfhiaaGreatDoor.Ev
