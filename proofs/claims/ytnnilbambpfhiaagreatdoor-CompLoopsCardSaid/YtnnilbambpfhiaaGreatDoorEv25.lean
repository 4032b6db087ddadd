/-
  Calls that are known: the module is compiled.
-/
import Derived.Test.YtnnilbambpfhiaaGreatDoorEv24
namespace Go.Proofs.YtnnilbambpfhiaaGreatDoor.Ev
open Go
set_option maxRecDepth 100000

noncomputable def comp : Memo where
  B := []
  f := 4
  args := [.agg [.str [112], .slice 113 0 1 (.exact 1)]]
  hin := [(0, spR),
  (113, ⟨57, false, true, [.str [102], .slice 112 0 1 (.exact 1), .int .i64 (.c 5), .str [], .int .i64 (.c 0), .int .i64 (.c 0), .int .i64 (.c 0), .cplx .f64 0 0, .str [], .int .i64 (.c 0), .int .i64 (.c 0), .nilslice, .nilslice, .slice 111 0 3 (.exact 3)]⟩),
  (112, ⟨9, false, true, [.str [110]]⟩),
  (111, ⟨55, false, true, [.int .i64 (.c 6), .str [], .int .i64 (.c 14), .int .i64 (.c 0), .int .i64 (.c 0), .cplx .f64 0 0, .str [], .int .i64 (.c 0), .int .i64 (.c 0), .nilslice, .nilslice, .slice 107 0 2 (.exact 2), .int .i64 (.c 1), .str [], .int .i64 (.c 0), .int .i64 (.c 5), .int .i64 (.c 0), .cplx .f64 0 0, .str [100, 111, 110, 101], .int .i64 (.c 0), .int .i64 (.c 0), .nilslice, .nilslice, .nilslice, .int .i64 (.c 7), .str [102], .int .i64 (.c 0), .int .i64 (.c 0), .int .i64 (.c 0), .cplx .f64 0 0, .str [], .int .i64 (.c 0), .int .i64 (.c 0), .nilslice, .nilslice, .slice 108 0 1 (.exact 1)]⟩),
  (107, ⟨55, false, true, [.int .i64 (.c 2), .str [110], .int .i64 (.c 0), .int .i64 (.c 0), .int .i64 (.c 0), .cplx .f64 0 0, .str [], .int .i64 (.c 0), .int .i64 (.c 0), .nilslice, .nilslice, .nilslice, .int .i64 (.c 1), .str [], .int .i64 (.c 0), .int .i64 (.c 3), .int .i64 (.c 0), .cplx .f64 0 0, .str [], .int .i64 (.c 0), .int .i64 (.c 0), .nilslice, .nilslice, .nilslice]⟩),
  (108, ⟨55, false, true, [.int .i64 (.c 6), .str [], .int .i64 (.c 7), .int .i64 (.c 0), .int .i64 (.c 0), .cplx .f64 0 0, .str [], .int .i64 (.c 0), .int .i64 (.c 0), .nilslice, .nilslice, .slice 104 0 2 (.exact 2)]⟩),
  (104, ⟨55, false, true, [.int .i64 (.c 2), .str [110], .int .i64 (.c 0), .int .i64 (.c 0), .int .i64 (.c 0), .cplx .f64 0 0, .str [], .int .i64 (.c 0), .int .i64 (.c 0), .nilslice, .nilslice, .nilslice, .int .i64 (.c 1), .str [], .int .i64 (.c 0), .int .i64 (.c 3), .int .i64 (.c 1), .cplx .f64 0 0, .str [], .int .i64 (.c 0), .int .i64 (.c 0), .nilslice, .nilslice, .nilslice]⟩)]
  c0 := 114
  c1 := 1346
  hout := [(1169, ⟨73, true, false, [.str [102], .int .i64 (.c 1), .int .i64 (.c 1), .slice 1156 0 11 (.opn 0)]⟩),
  (1156, ⟨82, true, false, [.int .i64 (.c 4), .int .i64 (.c 0), .int .i64 (.c 0), .int .i64 (.c 0), .int .i64 (.c 0), .cplx .f64 0 0, .str [], .int .i64 (.c 0), .int .i64 (.c 0), .nilslice, .nilslice, .int .i64 (.c 1), .int .i64 (.c 0), .int .i64 (.c 0), .int .i64 (.c 3), .int .i64 (.c 0), .cplx .f64 0 0, .str [], .int .i64 (.c 0), .int .i64 (.c 0), .nilslice, .nilslice, .int .i64 (.c 14), .int .i64 (.c 0), .int .i64 (.c 0), .int .i64 (.c 0), .int .i64 (.c 0), .cplx .f64 0 0, .str [], .int .i64 (.c 0), .int .i64 (.c 0), .nilslice, .nilslice, .int .i64 (.c 26), .int .i64 (.c 9), .int .i64 (.c 0), .int .i64 (.c 0), .int .i64 (.c 0), .cplx .f64 0 0, .str [], .int .i64 (.c 0), .int .i64 (.c 0), .nilslice, .nilslice, .int .i64 (.c 4), .int .i64 (.c 0), .int .i64 (.c 0), .int .i64 (.c 0), .int .i64 (.c 0), .cplx .f64 0 0, .str [], .int .i64 (.c 0), .int .i64 (.c 0), .nilslice, .nilslice, .int .i64 (.c 1), .int .i64 (.c 0), .int .i64 (.c 0), .int .i64 (.c 3), .int .i64 (.c 1), .cplx .f64 0 0, .str [], .int .i64 (.c 0), .int .i64 (.c 0), .nilslice, .nilslice, .int .i64 (.c 7), .int .i64 (.c 0), .int .i64 (.c 0), .int .i64 (.c 0), .int .i64 (.c 0), .cplx .f64 0 0, .str [], .int .i64 (.c 0), .int .i64 (.c 0), .nilslice, .nilslice, .int .i64 (.c 5), .int .i64 (.c 0), .int .i64 (.c 0), .int .i64 (.c 0), .int .i64 (.c 0), .cplx .f64 0 0, .str [], .int .i64 (.c 0), .int .i64 (.c 0), .nilslice, .nilslice, .int .i64 (.c 25), .int .i64 (.c 0), .int .i64 (.c 0), .int .i64 (.c 0), .int .i64 (.c 0), .cplx .f64 0 0, .str [], .int .i64 (.c 0), .int .i64 (.c 0), .nilslice, .nilslice, .int .i64 (.c 1), .int .i64 (.c 0), .int .i64 (.c 0), .int .i64 (.c 5), .int .i64 (.c 0), .cplx .f64 0 0, .str [100, 111, 110, 101], .int .i64 (.c 0), .int .i64 (.c 0), .nilslice, .nilslice, .int .i64 (.c 29), .int .i64 (.c 0), .int .i64 (.c 0), .int .i64 (.c 0), .int .i64 (.c 0), .cplx .f64 0 0, .str [], .int .i64 (.c 0), .int .i64 (.c 0), .nilslice, .nilslice]⟩)]
  out := .tup [.agg [.str [112], .slice 1169 0 1 (.opn 0)], .sc (.int .i64 (.c 0)), .sc (.int .i64 (.c 0))]
theorem comp_ok : MemoOk Tryz.prog 5 comp := Known.run (ms := [chk]) (.cons chk_ok (.nil)) comp (by kernel_rfl)

end Go.Proofs.YtnnilbambpfhiaaGreatDoor.Ev
