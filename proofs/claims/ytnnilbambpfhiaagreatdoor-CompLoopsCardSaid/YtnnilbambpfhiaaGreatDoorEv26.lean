/-
  Calls that are known: one instruction of the machine.
-/
import Derived.Test.YtnnilbambpfhiaaGreatDoorEv25
namespace Go.Proofs.YtnnilbambpfhiaaGreatDoor.Ev
open Go
set_option maxRecDepth 100000

noncomputable def do0i : Memo where
  B := [(0, 999)]
  f := 71
  args := [.agg [.str [112], .slice 1169 0 1 (.opn 0)], .sc (.ptr 1529 0)]
  hin := [(1169, ⟨73, true, true, [.str [102], .int .i64 (.c 1), .int .i64 (.c 1), .slice 1156 0 11 (.opn 0)]⟩),
  (1529, ⟨180, false, false, [.bool true, .slice 1543 0 1 (.opn 0), .slice 1539 0 0 (.opn 0)]⟩),
  (1156, ⟨82, true, true, [.int .i64 (.c 4), .int .i64 (.c 0), .int .i64 (.c 0), .int .i64 (.c 0), .int .i64 (.c 0), .cplx .f64 0 0, .str [], .int .i64 (.c 0), .int .i64 (.c 0), .nilslice, .nilslice, .int .i64 (.c 1), .int .i64 (.c 0), .int .i64 (.c 0), .int .i64 (.c 3), .int .i64 (.c 0), .cplx .f64 0 0, .str [], .int .i64 (.c 0), .int .i64 (.c 0), .nilslice, .nilslice, .int .i64 (.c 14), .int .i64 (.c 0), .int .i64 (.c 0), .int .i64 (.c 0), .int .i64 (.c 0), .cplx .f64 0 0, .str [], .int .i64 (.c 0), .int .i64 (.c 0), .nilslice, .nilslice, .int .i64 (.c 26), .int .i64 (.c 9), .int .i64 (.c 0), .int .i64 (.c 0), .int .i64 (.c 0), .cplx .f64 0 0, .str [], .int .i64 (.c 0), .int .i64 (.c 0), .nilslice, .nilslice, .int .i64 (.c 4), .int .i64 (.c 0), .int .i64 (.c 0), .int .i64 (.c 0), .int .i64 (.c 0), .cplx .f64 0 0, .str [], .int .i64 (.c 0), .int .i64 (.c 0), .nilslice, .nilslice, .int .i64 (.c 1), .int .i64 (.c 0), .int .i64 (.c 0), .int .i64 (.c 3), .int .i64 (.c 1), .cplx .f64 0 0, .str [], .int .i64 (.c 0), .int .i64 (.c 0), .nilslice, .nilslice, .int .i64 (.c 7), .int .i64 (.c 0), .int .i64 (.c 0), .int .i64 (.c 0), .int .i64 (.c 0), .cplx .f64 0 0, .str [], .int .i64 (.c 0), .int .i64 (.c 0), .nilslice, .nilslice, .int .i64 (.c 5), .int .i64 (.c 0), .int .i64 (.c 0), .int .i64 (.c 0), .int .i64 (.c 0), .cplx .f64 0 0, .str [], .int .i64 (.c 0), .int .i64 (.c 0), .nilslice, .nilslice, .int .i64 (.c 25), .int .i64 (.c 0), .int .i64 (.c 0), .int .i64 (.c 0), .int .i64 (.c 0), .cplx .f64 0 0, .str [], .int .i64 (.c 0), .int .i64 (.c 0), .nilslice, .nilslice, .int .i64 (.c 1), .int .i64 (.c 0), .int .i64 (.c 0), .int .i64 (.c 5), .int .i64 (.c 0), .cplx .f64 0 0, .str [100, 111, 110, 101], .int .i64 (.c 0), .int .i64 (.c 0), .nilslice, .nilslice, .int .i64 (.c 29), .int .i64 (.c 0), .int .i64 (.c 0), .int .i64 (.c 0), .int .i64 (.c 0), .cplx .f64 0 0, .str [], .int .i64 (.c 0), .int .i64 (.c 0), .nilslice, .nilslice]⟩),
  (1543, ⟨185, true, true, [.int .i64 (.c 0), .int .i64 (.c 0), .slice 1541 0 1 (.opn 0), .int .i64 (.c 0)]⟩),
  (1539, ⟨38, true, true, [.int .i64 (.c 3), .int .i64 (.l 0 [(0, 1)]), .cplx .f64 0 0, .str [], .int .i64 (.c 0), .int .i64 (.c 0), .nilslice]⟩),
  (1541, ⟨38, true, true, [.int .i64 (.c 3), .int .i64 (.l 0 [(0, 1)]), .cplx .f64 0 0, .str [], .int .i64 (.c 0), .int .i64 (.c 0), .nilslice]⟩)]
  c0 := 1552
  c1 := 1598
  hout := [(1529, ⟨180, false, false, [.bool true, .slice 1568 0 1 (.opn 0), .slice 1596 0 1 (.opn 0)]⟩),
  (1568, ⟨185, true, false, [.int .i64 (.c 0), .int .i64 (.c 1), .slice 1566 0 1 (.opn 0), .int .i64 (.c 0)]⟩),
  (1596, ⟨38, true, false, [.int .i64 (.c 3), .int .i64 (.l 0 [(0, 1)]), .cplx .f64 0 0, .str [], .int .i64 (.c 0), .int .i64 (.c 0), .nilslice]⟩),
  (1566, ⟨38, true, false, [.int .i64 (.c 3), .int .i64 (.l 0 [(0, 1)]), .cplx .f64 0 0, .str [], .int .i64 (.c 0), .int .i64 (.c 0), .nilslice]⟩)]
  out := .tup [.agg [.int .i64 (.c 1), .int .i64 (.c 0), .int .i64 (.c 0), .cplx .f64 0 0, .str [], .int .i64 (.c 0), .int .i64 (.c 0), .nilslice, .int .i64 (.c 0), .int .i64 (.c 0), .cplx .f64 0 0, .str [], .int .i64 (.c 0), .int .i64 (.c 0), .nilslice, .nilslice, .int .i64 (.c 0), .int .i64 (.c 0), .int .i64 (.c 0), .nilslice], .sc (.int .i64 (.c 1)), .sc (.int .i64 (.c 0))]
theorem do0i_ok : MemoOk Tryz.prog 5 do0i := Known.run (ms := []) (.nil) do0i (by kernel_rfl)

noncomputable def do0 : Memo where
  B := [(0, 999)]
  f := 71
  args := [.agg [.str [112], .slice 1169 0 1 (.opn 0)], .sc (.ptr 1529 0)]
  hin := [(1169, ⟨73, true, true, [.str [102], .int .i64 (.c 1), .int .i64 (.c 1), .slice 1156 0 11 (.opn 0)]⟩),
  (1529, ⟨180, false, false, [.bool true, .slice 2069 0 1 (.opn 0), .slice 2063 0 0 (.exact 0)]⟩),
  (1156, ⟨82, true, true, [.int .i64 (.c 4), .int .i64 (.c 0), .int .i64 (.c 0), .int .i64 (.c 0), .int .i64 (.c 0), .cplx .f64 0 0, .str [], .int .i64 (.c 0), .int .i64 (.c 0), .nilslice, .nilslice, .int .i64 (.c 1), .int .i64 (.c 0), .int .i64 (.c 0), .int .i64 (.c 3), .int .i64 (.c 0), .cplx .f64 0 0, .str [], .int .i64 (.c 0), .int .i64 (.c 0), .nilslice, .nilslice, .int .i64 (.c 14), .int .i64 (.c 0), .int .i64 (.c 0), .int .i64 (.c 0), .int .i64 (.c 0), .cplx .f64 0 0, .str [], .int .i64 (.c 0), .int .i64 (.c 0), .nilslice, .nilslice, .int .i64 (.c 26), .int .i64 (.c 9), .int .i64 (.c 0), .int .i64 (.c 0), .int .i64 (.c 0), .cplx .f64 0 0, .str [], .int .i64 (.c 0), .int .i64 (.c 0), .nilslice, .nilslice, .int .i64 (.c 4), .int .i64 (.c 0), .int .i64 (.c 0), .int .i64 (.c 0), .int .i64 (.c 0), .cplx .f64 0 0, .str [], .int .i64 (.c 0), .int .i64 (.c 0), .nilslice, .nilslice, .int .i64 (.c 1), .int .i64 (.c 0), .int .i64 (.c 0), .int .i64 (.c 3), .int .i64 (.c 1), .cplx .f64 0 0, .str [], .int .i64 (.c 0), .int .i64 (.c 0), .nilslice, .nilslice, .int .i64 (.c 7), .int .i64 (.c 0), .int .i64 (.c 0), .int .i64 (.c 0), .int .i64 (.c 0), .cplx .f64 0 0, .str [], .int .i64 (.c 0), .int .i64 (.c 0), .nilslice, .nilslice, .int .i64 (.c 5), .int .i64 (.c 0), .int .i64 (.c 0), .int .i64 (.c 0), .int .i64 (.c 0), .cplx .f64 0 0, .str [], .int .i64 (.c 0), .int .i64 (.c 0), .nilslice, .nilslice, .int .i64 (.c 25), .int .i64 (.c 0), .int .i64 (.c 0), .int .i64 (.c 0), .int .i64 (.c 0), .cplx .f64 0 0, .str [], .int .i64 (.c 0), .int .i64 (.c 0), .nilslice, .nilslice, .int .i64 (.c 1), .int .i64 (.c 0), .int .i64 (.c 0), .int .i64 (.c 5), .int .i64 (.c 0), .cplx .f64 0 0, .str [100, 111, 110, 101], .int .i64 (.c 0), .int .i64 (.c 0), .nilslice, .nilslice, .int .i64 (.c 29), .int .i64 (.c 0), .int .i64 (.c 0), .int .i64 (.c 0), .int .i64 (.c 0), .cplx .f64 0 0, .str [], .int .i64 (.c 0), .int .i64 (.c 0), .nilslice, .nilslice]⟩),
  (2069, ⟨185, true, true, [.int .i64 (.c 0), .int .i64 (.c 0), .slice 2067 0 1 (.opn 0), .int .i64 (.c 0)]⟩),
  (2063, ⟨38, false, true, []⟩),
  (2067, ⟨38, true, true, [.int .i64 (.c 3), .int .i64 (.l 0 [(0, 1)]), .cplx .f64 0 0, .str [], .int .i64 (.c 0), .int .i64 (.c 0), .nilslice]⟩)]
  c0 := 2094
  c1 := 2140
  hout := [(1529, ⟨180, false, false, [.bool true, .slice 2110 0 1 (.opn 0), .slice 2138 0 1 (.opn 0)]⟩),
  (2110, ⟨185, true, false, [.int .i64 (.c 0), .int .i64 (.c 1), .slice 2108 0 1 (.opn 0), .int .i64 (.c 0)]⟩),
  (2138, ⟨38, true, false, [.int .i64 (.c 3), .int .i64 (.l 0 [(0, 1)]), .cplx .f64 0 0, .str [], .int .i64 (.c 0), .int .i64 (.c 0), .nilslice]⟩),
  (2108, ⟨38, true, false, [.int .i64 (.c 3), .int .i64 (.l 0 [(0, 1)]), .cplx .f64 0 0, .str [], .int .i64 (.c 0), .int .i64 (.c 0), .nilslice]⟩)]
  out := .tup [.agg [.int .i64 (.c 1), .int .i64 (.c 0), .int .i64 (.c 0), .cplx .f64 0 0, .str [], .int .i64 (.c 0), .int .i64 (.c 0), .nilslice, .int .i64 (.c 0), .int .i64 (.c 0), .cplx .f64 0 0, .str [], .int .i64 (.c 0), .int .i64 (.c 0), .nilslice, .nilslice, .int .i64 (.c 0), .int .i64 (.c 0), .int .i64 (.c 0), .nilslice], .sc (.int .i64 (.c 1)), .sc (.int .i64 (.c 0))]
theorem do0_ok : MemoOk Tryz.prog 5 do0 := Known.run (ms := []) (.nil) do0 (by kernel_rfl)

noncomputable def do1 : Memo where
  B := [(0, 999)]
  f := 71
  args := [.agg [.str [112], .slice 1169 0 1 (.opn 0)], .sc (.ptr 1529 0)]
  hin := [(1169, ⟨73, true, true, [.str [102], .int .i64 (.c 1), .int .i64 (.c 1), .slice 1156 0 11 (.opn 0)]⟩),
  (1529, ⟨180, false, false, [.bool true, .slice 2110 0 1 (.opn 0), .slice 2138 0 1 (.opn 0)]⟩),
  (1156, ⟨82, true, true, [.int .i64 (.c 4), .int .i64 (.c 0), .int .i64 (.c 0), .int .i64 (.c 0), .int .i64 (.c 0), .cplx .f64 0 0, .str [], .int .i64 (.c 0), .int .i64 (.c 0), .nilslice, .nilslice, .int .i64 (.c 1), .int .i64 (.c 0), .int .i64 (.c 0), .int .i64 (.c 3), .int .i64 (.c 0), .cplx .f64 0 0, .str [], .int .i64 (.c 0), .int .i64 (.c 0), .nilslice, .nilslice, .int .i64 (.c 14), .int .i64 (.c 0), .int .i64 (.c 0), .int .i64 (.c 0), .int .i64 (.c 0), .cplx .f64 0 0, .str [], .int .i64 (.c 0), .int .i64 (.c 0), .nilslice, .nilslice, .int .i64 (.c 26), .int .i64 (.c 9), .int .i64 (.c 0), .int .i64 (.c 0), .int .i64 (.c 0), .cplx .f64 0 0, .str [], .int .i64 (.c 0), .int .i64 (.c 0), .nilslice, .nilslice, .int .i64 (.c 4), .int .i64 (.c 0), .int .i64 (.c 0), .int .i64 (.c 0), .int .i64 (.c 0), .cplx .f64 0 0, .str [], .int .i64 (.c 0), .int .i64 (.c 0), .nilslice, .nilslice, .int .i64 (.c 1), .int .i64 (.c 0), .int .i64 (.c 0), .int .i64 (.c 3), .int .i64 (.c 1), .cplx .f64 0 0, .str [], .int .i64 (.c 0), .int .i64 (.c 0), .nilslice, .nilslice, .int .i64 (.c 7), .int .i64 (.c 0), .int .i64 (.c 0), .int .i64 (.c 0), .int .i64 (.c 0), .cplx .f64 0 0, .str [], .int .i64 (.c 0), .int .i64 (.c 0), .nilslice, .nilslice, .int .i64 (.c 5), .int .i64 (.c 0), .int .i64 (.c 0), .int .i64 (.c 0), .int .i64 (.c 0), .cplx .f64 0 0, .str [], .int .i64 (.c 0), .int .i64 (.c 0), .nilslice, .nilslice, .int .i64 (.c 25), .int .i64 (.c 0), .int .i64 (.c 0), .int .i64 (.c 0), .int .i64 (.c 0), .cplx .f64 0 0, .str [], .int .i64 (.c 0), .int .i64 (.c 0), .nilslice, .nilslice, .int .i64 (.c 1), .int .i64 (.c 0), .int .i64 (.c 0), .int .i64 (.c 5), .int .i64 (.c 0), .cplx .f64 0 0, .str [100, 111, 110, 101], .int .i64 (.c 0), .int .i64 (.c 0), .nilslice, .nilslice, .int .i64 (.c 29), .int .i64 (.c 0), .int .i64 (.c 0), .int .i64 (.c 0), .int .i64 (.c 0), .cplx .f64 0 0, .str [], .int .i64 (.c 0), .int .i64 (.c 0), .nilslice, .nilslice]⟩),
  (2110, ⟨185, true, true, [.int .i64 (.c 0), .int .i64 (.c 1), .slice 2108 0 1 (.opn 0), .int .i64 (.c 0)]⟩),
  (2138, ⟨38, true, true, [.int .i64 (.c 3), .int .i64 (.l 0 [(0, 1)]), .cplx .f64 0 0, .str [], .int .i64 (.c 0), .int .i64 (.c 0), .nilslice]⟩),
  (2108, ⟨38, true, true, [.int .i64 (.c 3), .int .i64 (.l 0 [(0, 1)]), .cplx .f64 0 0, .str [], .int .i64 (.c 0), .int .i64 (.c 0), .nilslice]⟩)]
  c0 := 2141
  c1 := 2186
  hout := [(1529, ⟨180, false, false, [.bool true, .slice 2159 0 1 (.opn 0), .slice 2184 0 2 (.opn 0)]⟩),
  (2159, ⟨185, true, false, [.int .i64 (.c 0), .int .i64 (.c 2), .slice 2157 0 1 (.opn 0), .int .i64 (.c 0)]⟩),
  (2184, ⟨38, true, false, [.int .i64 (.c 3), .int .i64 (.l 0 [(0, 1)]), .cplx .f64 0 0, .str [], .int .i64 (.c 0), .int .i64 (.c 0), .nilslice, .int .i64 (.c 3), .int .i64 (.c 0), .cplx .f64 0 0, .str [], .int .i64 (.c 0), .int .i64 (.c 0), .nilslice]⟩),
  (2157, ⟨38, true, false, [.int .i64 (.c 3), .int .i64 (.l 0 [(0, 1)]), .cplx .f64 0 0, .str [], .int .i64 (.c 0), .int .i64 (.c 0), .nilslice]⟩)]
  out := .tup [.agg [.int .i64 (.c 1), .int .i64 (.c 0), .int .i64 (.c 0), .cplx .f64 0 0, .str [], .int .i64 (.c 0), .int .i64 (.c 0), .nilslice, .int .i64 (.c 0), .int .i64 (.c 0), .cplx .f64 0 0, .str [], .int .i64 (.c 0), .int .i64 (.c 0), .nilslice, .nilslice, .int .i64 (.c 0), .int .i64 (.c 0), .int .i64 (.c 0), .nilslice], .sc (.int .i64 (.c 1)), .sc (.int .i64 (.c 0))]
theorem do1_ok : MemoOk Tryz.prog 5 do1 := Known.run (ms := []) (.nil) do1 (by kernel_rfl)

noncomputable def do2 : Memo where
  B := [(1, 999)]
  f := 71
  args := [.agg [.str [112], .slice 1169 0 1 (.opn 0)], .sc (.ptr 1529 0)]
  hin := [(1169, ⟨73, true, true, [.str [102], .int .i64 (.c 1), .int .i64 (.c 1), .slice 1156 0 11 (.opn 0)]⟩),
  (1529, ⟨180, false, false, [.bool true, .slice 2159 0 1 (.opn 0), .slice 2184 0 2 (.opn 0)]⟩),
  (1156, ⟨82, true, true, [.int .i64 (.c 4), .int .i64 (.c 0), .int .i64 (.c 0), .int .i64 (.c 0), .int .i64 (.c 0), .cplx .f64 0 0, .str [], .int .i64 (.c 0), .int .i64 (.c 0), .nilslice, .nilslice, .int .i64 (.c 1), .int .i64 (.c 0), .int .i64 (.c 0), .int .i64 (.c 3), .int .i64 (.c 0), .cplx .f64 0 0, .str [], .int .i64 (.c 0), .int .i64 (.c 0), .nilslice, .nilslice, .int .i64 (.c 14), .int .i64 (.c 0), .int .i64 (.c 0), .int .i64 (.c 0), .int .i64 (.c 0), .cplx .f64 0 0, .str [], .int .i64 (.c 0), .int .i64 (.c 0), .nilslice, .nilslice, .int .i64 (.c 26), .int .i64 (.c 9), .int .i64 (.c 0), .int .i64 (.c 0), .int .i64 (.c 0), .cplx .f64 0 0, .str [], .int .i64 (.c 0), .int .i64 (.c 0), .nilslice, .nilslice, .int .i64 (.c 4), .int .i64 (.c 0), .int .i64 (.c 0), .int .i64 (.c 0), .int .i64 (.c 0), .cplx .f64 0 0, .str [], .int .i64 (.c 0), .int .i64 (.c 0), .nilslice, .nilslice, .int .i64 (.c 1), .int .i64 (.c 0), .int .i64 (.c 0), .int .i64 (.c 3), .int .i64 (.c 1), .cplx .f64 0 0, .str [], .int .i64 (.c 0), .int .i64 (.c 0), .nilslice, .nilslice, .int .i64 (.c 7), .int .i64 (.c 0), .int .i64 (.c 0), .int .i64 (.c 0), .int .i64 (.c 0), .cplx .f64 0 0, .str [], .int .i64 (.c 0), .int .i64 (.c 0), .nilslice, .nilslice, .int .i64 (.c 5), .int .i64 (.c 0), .int .i64 (.c 0), .int .i64 (.c 0), .int .i64 (.c 0), .cplx .f64 0 0, .str [], .int .i64 (.c 0), .int .i64 (.c 0), .nilslice, .nilslice, .int .i64 (.c 25), .int .i64 (.c 0), .int .i64 (.c 0), .int .i64 (.c 0), .int .i64 (.c 0), .cplx .f64 0 0, .str [], .int .i64 (.c 0), .int .i64 (.c 0), .nilslice, .nilslice, .int .i64 (.c 1), .int .i64 (.c 0), .int .i64 (.c 0), .int .i64 (.c 5), .int .i64 (.c 0), .cplx .f64 0 0, .str [100, 111, 110, 101], .int .i64 (.c 0), .int .i64 (.c 0), .nilslice, .nilslice, .int .i64 (.c 29), .int .i64 (.c 0), .int .i64 (.c 0), .int .i64 (.c 0), .int .i64 (.c 0), .cplx .f64 0 0, .str [], .int .i64 (.c 0), .int .i64 (.c 0), .nilslice, .nilslice]⟩),
  (2159, ⟨185, true, true, [.int .i64 (.c 0), .int .i64 (.c 2), .slice 2157 0 1 (.opn 0), .int .i64 (.c 0)]⟩),
  (2184, ⟨38, true, true, [.int .i64 (.c 3), .int .i64 (.l 0 [(0, 1)]), .cplx .f64 0 0, .str [], .int .i64 (.c 0), .int .i64 (.c 0), .nilslice, .int .i64 (.c 3), .int .i64 (.c 0), .cplx .f64 0 0, .str [], .int .i64 (.c 0), .int .i64 (.c 0), .nilslice]⟩),
  (2157, ⟨38, true, true, [.int .i64 (.c 3), .int .i64 (.l 0 [(0, 1)]), .cplx .f64 0 0, .str [], .int .i64 (.c 0), .int .i64 (.c 0), .nilslice]⟩)]
  c0 := 2187
  c1 := 2290
  hout := [(1529, ⟨180, false, false, [.bool true, .slice 2205 0 1 (.opn 0), .slice 2288 0 1 (.opn 0)]⟩),
  (2205, ⟨185, true, false, [.int .i64 (.c 0), .int .i64 (.c 3), .slice 2203 0 1 (.opn 0), .int .i64 (.c 0)]⟩),
  (2288, ⟨38, true, false, [.int .i64 (.c 2), .int .i64 (.c 0), .cplx .f64 0 0, .str [], .int .i64 (.c 0), .int .i64 (.c 0), .nilslice]⟩),
  (2203, ⟨38, true, false, [.int .i64 (.c 3), .int .i64 (.l 0 [(0, 1)]), .cplx .f64 0 0, .str [], .int .i64 (.c 0), .int .i64 (.c 0), .nilslice]⟩)]
  out := .tup [.agg [.int .i64 (.c 1), .int .i64 (.c 0), .int .i64 (.c 0), .cplx .f64 0 0, .str [], .int .i64 (.c 0), .int .i64 (.c 0), .nilslice, .int .i64 (.c 0), .int .i64 (.c 0), .cplx .f64 0 0, .str [], .int .i64 (.c 0), .int .i64 (.c 0), .nilslice, .nilslice, .int .i64 (.c 0), .int .i64 (.c 0), .int .i64 (.c 0), .nilslice], .sc (.int .i64 (.c 1)), .sc (.int .i64 (.c 0))]
theorem do2_ok : MemoOk Tryz.prog 5 do2 := Known.run (ms := []) (.nil) do2 (by kernel_rfl)

noncomputable def do3 : Memo where
  B := [(1, 999)]
  f := 71
  args := [.agg [.str [112], .slice 1169 0 1 (.opn 0)], .sc (.ptr 1529 0)]
  hin := [(1169, ⟨73, true, true, [.str [102], .int .i64 (.c 1), .int .i64 (.c 1), .slice 1156 0 11 (.opn 0)]⟩),
  (1529, ⟨180, false, false, [.bool true, .slice 2205 0 1 (.opn 0), .slice 2288 0 1 (.opn 0)]⟩),
  (1156, ⟨82, true, true, [.int .i64 (.c 4), .int .i64 (.c 0), .int .i64 (.c 0), .int .i64 (.c 0), .int .i64 (.c 0), .cplx .f64 0 0, .str [], .int .i64 (.c 0), .int .i64 (.c 0), .nilslice, .nilslice, .int .i64 (.c 1), .int .i64 (.c 0), .int .i64 (.c 0), .int .i64 (.c 3), .int .i64 (.c 0), .cplx .f64 0 0, .str [], .int .i64 (.c 0), .int .i64 (.c 0), .nilslice, .nilslice, .int .i64 (.c 14), .int .i64 (.c 0), .int .i64 (.c 0), .int .i64 (.c 0), .int .i64 (.c 0), .cplx .f64 0 0, .str [], .int .i64 (.c 0), .int .i64 (.c 0), .nilslice, .nilslice, .int .i64 (.c 26), .int .i64 (.c 9), .int .i64 (.c 0), .int .i64 (.c 0), .int .i64 (.c 0), .cplx .f64 0 0, .str [], .int .i64 (.c 0), .int .i64 (.c 0), .nilslice, .nilslice, .int .i64 (.c 4), .int .i64 (.c 0), .int .i64 (.c 0), .int .i64 (.c 0), .int .i64 (.c 0), .cplx .f64 0 0, .str [], .int .i64 (.c 0), .int .i64 (.c 0), .nilslice, .nilslice, .int .i64 (.c 1), .int .i64 (.c 0), .int .i64 (.c 0), .int .i64 (.c 3), .int .i64 (.c 1), .cplx .f64 0 0, .str [], .int .i64 (.c 0), .int .i64 (.c 0), .nilslice, .nilslice, .int .i64 (.c 7), .int .i64 (.c 0), .int .i64 (.c 0), .int .i64 (.c 0), .int .i64 (.c 0), .cplx .f64 0 0, .str [], .int .i64 (.c 0), .int .i64 (.c 0), .nilslice, .nilslice, .int .i64 (.c 5), .int .i64 (.c 0), .int .i64 (.c 0), .int .i64 (.c 0), .int .i64 (.c 0), .cplx .f64 0 0, .str [], .int .i64 (.c 0), .int .i64 (.c 0), .nilslice, .nilslice, .int .i64 (.c 25), .int .i64 (.c 0), .int .i64 (.c 0), .int .i64 (.c 0), .int .i64 (.c 0), .cplx .f64 0 0, .str [], .int .i64 (.c 0), .int .i64 (.c 0), .nilslice, .nilslice, .int .i64 (.c 1), .int .i64 (.c 0), .int .i64 (.c 0), .int .i64 (.c 5), .int .i64 (.c 0), .cplx .f64 0 0, .str [100, 111, 110, 101], .int .i64 (.c 0), .int .i64 (.c 0), .nilslice, .nilslice, .int .i64 (.c 29), .int .i64 (.c 0), .int .i64 (.c 0), .int .i64 (.c 0), .int .i64 (.c 0), .cplx .f64 0 0, .str [], .int .i64 (.c 0), .int .i64 (.c 0), .nilslice, .nilslice]⟩),
  (2205, ⟨185, true, true, [.int .i64 (.c 0), .int .i64 (.c 3), .slice 2203 0 1 (.opn 0), .int .i64 (.c 0)]⟩),
  (2288, ⟨38, true, true, [.int .i64 (.c 2), .int .i64 (.c 0), .cplx .f64 0 0, .str [], .int .i64 (.c 0), .int .i64 (.c 0), .nilslice]⟩),
  (2203, ⟨38, true, true, [.int .i64 (.c 3), .int .i64 (.l 0 [(0, 1)]), .cplx .f64 0 0, .str [], .int .i64 (.c 0), .int .i64 (.c 0), .nilslice]⟩)]
  c0 := 2291
  c1 := 2343
  hout := [(1529, ⟨180, false, false, [.bool true, .slice 2309 0 1 (.opn 0), .slice 2303 0 0 (.opn 0)]⟩),
  (2309, ⟨185, true, false, [.int .i64 (.c 0), .int .i64 (.c 4), .slice 2307 0 1 (.opn 0), .int .i64 (.c 0)]⟩),
  (2303, ⟨38, true, false, [.int .i64 (.c 2), .int .i64 (.c 0), .cplx .f64 0 0, .str [], .int .i64 (.c 0), .int .i64 (.c 0), .nilslice]⟩),
  (2307, ⟨38, true, false, [.int .i64 (.c 3), .int .i64 (.l 0 [(0, 1)]), .cplx .f64 0 0, .str [], .int .i64 (.c 0), .int .i64 (.c 0), .nilslice]⟩)]
  out := .tup [.agg [.int .i64 (.c 1), .int .i64 (.c 0), .int .i64 (.c 0), .cplx .f64 0 0, .str [], .int .i64 (.c 0), .int .i64 (.c 0), .nilslice, .int .i64 (.c 0), .int .i64 (.c 0), .cplx .f64 0 0, .str [], .int .i64 (.c 0), .int .i64 (.c 0), .nilslice, .nilslice, .int .i64 (.c 0), .int .i64 (.c 0), .int .i64 (.c 0), .nilslice], .sc (.int .i64 (.c 1)), .sc (.int .i64 (.c 0))]
theorem do3_ok : MemoOk Tryz.prog 5 do3 := Known.run (ms := []) (.nil) do3 (by kernel_rfl)

noncomputable def do4 : Memo where
  B := [(1, 999)]
  f := 71
  args := [.agg [.str [112], .slice 1169 0 1 (.opn 0)], .sc (.ptr 1529 0)]
  hin := [(1169, ⟨73, true, true, [.str [102], .int .i64 (.c 1), .int .i64 (.c 1), .slice 1156 0 11 (.opn 0)]⟩),
  (1529, ⟨180, false, false, [.bool true, .slice 2309 0 1 (.opn 0), .slice 2303 0 0 (.opn 0)]⟩),
  (1156, ⟨82, true, true, [.int .i64 (.c 4), .int .i64 (.c 0), .int .i64 (.c 0), .int .i64 (.c 0), .int .i64 (.c 0), .cplx .f64 0 0, .str [], .int .i64 (.c 0), .int .i64 (.c 0), .nilslice, .nilslice, .int .i64 (.c 1), .int .i64 (.c 0), .int .i64 (.c 0), .int .i64 (.c 3), .int .i64 (.c 0), .cplx .f64 0 0, .str [], .int .i64 (.c 0), .int .i64 (.c 0), .nilslice, .nilslice, .int .i64 (.c 14), .int .i64 (.c 0), .int .i64 (.c 0), .int .i64 (.c 0), .int .i64 (.c 0), .cplx .f64 0 0, .str [], .int .i64 (.c 0), .int .i64 (.c 0), .nilslice, .nilslice, .int .i64 (.c 26), .int .i64 (.c 9), .int .i64 (.c 0), .int .i64 (.c 0), .int .i64 (.c 0), .cplx .f64 0 0, .str [], .int .i64 (.c 0), .int .i64 (.c 0), .nilslice, .nilslice, .int .i64 (.c 4), .int .i64 (.c 0), .int .i64 (.c 0), .int .i64 (.c 0), .int .i64 (.c 0), .cplx .f64 0 0, .str [], .int .i64 (.c 0), .int .i64 (.c 0), .nilslice, .nilslice, .int .i64 (.c 1), .int .i64 (.c 0), .int .i64 (.c 0), .int .i64 (.c 3), .int .i64 (.c 1), .cplx .f64 0 0, .str [], .int .i64 (.c 0), .int .i64 (.c 0), .nilslice, .nilslice, .int .i64 (.c 7), .int .i64 (.c 0), .int .i64 (.c 0), .int .i64 (.c 0), .int .i64 (.c 0), .cplx .f64 0 0, .str [], .int .i64 (.c 0), .int .i64 (.c 0), .nilslice, .nilslice, .int .i64 (.c 5), .int .i64 (.c 0), .int .i64 (.c 0), .int .i64 (.c 0), .int .i64 (.c 0), .cplx .f64 0 0, .str [], .int .i64 (.c 0), .int .i64 (.c 0), .nilslice, .nilslice, .int .i64 (.c 25), .int .i64 (.c 0), .int .i64 (.c 0), .int .i64 (.c 0), .int .i64 (.c 0), .cplx .f64 0 0, .str [], .int .i64 (.c 0), .int .i64 (.c 0), .nilslice, .nilslice, .int .i64 (.c 1), .int .i64 (.c 0), .int .i64 (.c 0), .int .i64 (.c 5), .int .i64 (.c 0), .cplx .f64 0 0, .str [100, 111, 110, 101], .int .i64 (.c 0), .int .i64 (.c 0), .nilslice, .nilslice, .int .i64 (.c 29), .int .i64 (.c 0), .int .i64 (.c 0), .int .i64 (.c 0), .int .i64 (.c 0), .cplx .f64 0 0, .str [], .int .i64 (.c 0), .int .i64 (.c 0), .nilslice, .nilslice]⟩),
  (2309, ⟨185, true, true, [.int .i64 (.c 0), .int .i64 (.c 4), .slice 2307 0 1 (.opn 0), .int .i64 (.c 0)]⟩),
  (2303, ⟨38, true, true, [.int .i64 (.c 2), .int .i64 (.c 0), .cplx .f64 0 0, .str [], .int .i64 (.c 0), .int .i64 (.c 0), .nilslice]⟩),
  (2307, ⟨38, true, true, [.int .i64 (.c 3), .int .i64 (.l 0 [(0, 1)]), .cplx .f64 0 0, .str [], .int .i64 (.c 0), .int .i64 (.c 0), .nilslice]⟩)]
  c0 := 2344
  c1 := 2390
  hout := [(1529, ⟨180, false, false, [.bool true, .slice 2360 0 1 (.opn 0), .slice 2388 0 1 (.opn 0)]⟩),
  (2360, ⟨185, true, false, [.int .i64 (.c 0), .int .i64 (.c 5), .slice 2358 0 1 (.opn 0), .int .i64 (.c 0)]⟩),
  (2388, ⟨38, true, false, [.int .i64 (.c 3), .int .i64 (.l 0 [(0, 1)]), .cplx .f64 0 0, .str [], .int .i64 (.c 0), .int .i64 (.c 0), .nilslice]⟩),
  (2358, ⟨38, true, false, [.int .i64 (.c 3), .int .i64 (.l 0 [(0, 1)]), .cplx .f64 0 0, .str [], .int .i64 (.c 0), .int .i64 (.c 0), .nilslice]⟩)]
  out := .tup [.agg [.int .i64 (.c 1), .int .i64 (.c 0), .int .i64 (.c 0), .cplx .f64 0 0, .str [], .int .i64 (.c 0), .int .i64 (.c 0), .nilslice, .int .i64 (.c 0), .int .i64 (.c 0), .cplx .f64 0 0, .str [], .int .i64 (.c 0), .int .i64 (.c 0), .nilslice, .nilslice, .int .i64 (.c 0), .int .i64 (.c 0), .int .i64 (.c 0), .nilslice], .sc (.int .i64 (.c 1)), .sc (.int .i64 (.c 0))]
theorem do4_ok : MemoOk Tryz.prog 5 do4 := Known.run (ms := []) (.nil) do4 (by kernel_rfl)

noncomputable def do5 : Memo where
  B := [(1, 999)]
  f := 71
  args := [.agg [.str [112], .slice 1169 0 1 (.opn 0)], .sc (.ptr 1529 0)]
  hin := [(1169, ⟨73, true, true, [.str [102], .int .i64 (.c 1), .int .i64 (.c 1), .slice 1156 0 11 (.opn 0)]⟩),
  (1529, ⟨180, false, false, [.bool true, .slice 2360 0 1 (.opn 0), .slice 2388 0 1 (.opn 0)]⟩),
  (1156, ⟨82, true, true, [.int .i64 (.c 4), .int .i64 (.c 0), .int .i64 (.c 0), .int .i64 (.c 0), .int .i64 (.c 0), .cplx .f64 0 0, .str [], .int .i64 (.c 0), .int .i64 (.c 0), .nilslice, .nilslice, .int .i64 (.c 1), .int .i64 (.c 0), .int .i64 (.c 0), .int .i64 (.c 3), .int .i64 (.c 0), .cplx .f64 0 0, .str [], .int .i64 (.c 0), .int .i64 (.c 0), .nilslice, .nilslice, .int .i64 (.c 14), .int .i64 (.c 0), .int .i64 (.c 0), .int .i64 (.c 0), .int .i64 (.c 0), .cplx .f64 0 0, .str [], .int .i64 (.c 0), .int .i64 (.c 0), .nilslice, .nilslice, .int .i64 (.c 26), .int .i64 (.c 9), .int .i64 (.c 0), .int .i64 (.c 0), .int .i64 (.c 0), .cplx .f64 0 0, .str [], .int .i64 (.c 0), .int .i64 (.c 0), .nilslice, .nilslice, .int .i64 (.c 4), .int .i64 (.c 0), .int .i64 (.c 0), .int .i64 (.c 0), .int .i64 (.c 0), .cplx .f64 0 0, .str [], .int .i64 (.c 0), .int .i64 (.c 0), .nilslice, .nilslice, .int .i64 (.c 1), .int .i64 (.c 0), .int .i64 (.c 0), .int .i64 (.c 3), .int .i64 (.c 1), .cplx .f64 0 0, .str [], .int .i64 (.c 0), .int .i64 (.c 0), .nilslice, .nilslice, .int .i64 (.c 7), .int .i64 (.c 0), .int .i64 (.c 0), .int .i64 (.c 0), .int .i64 (.c 0), .cplx .f64 0 0, .str [], .int .i64 (.c 0), .int .i64 (.c 0), .nilslice, .nilslice, .int .i64 (.c 5), .int .i64 (.c 0), .int .i64 (.c 0), .int .i64 (.c 0), .int .i64 (.c 0), .cplx .f64 0 0, .str [], .int .i64 (.c 0), .int .i64 (.c 0), .nilslice, .nilslice, .int .i64 (.c 25), .int .i64 (.c 0), .int .i64 (.c 0), .int .i64 (.c 0), .int .i64 (.c 0), .cplx .f64 0 0, .str [], .int .i64 (.c 0), .int .i64 (.c 0), .nilslice, .nilslice, .int .i64 (.c 1), .int .i64 (.c 0), .int .i64 (.c 0), .int .i64 (.c 5), .int .i64 (.c 0), .cplx .f64 0 0, .str [100, 111, 110, 101], .int .i64 (.c 0), .int .i64 (.c 0), .nilslice, .nilslice, .int .i64 (.c 29), .int .i64 (.c 0), .int .i64 (.c 0), .int .i64 (.c 0), .int .i64 (.c 0), .cplx .f64 0 0, .str [], .int .i64 (.c 0), .int .i64 (.c 0), .nilslice, .nilslice]⟩),
  (2360, ⟨185, true, true, [.int .i64 (.c 0), .int .i64 (.c 5), .slice 2358 0 1 (.opn 0), .int .i64 (.c 0)]⟩),
  (2388, ⟨38, true, true, [.int .i64 (.c 3), .int .i64 (.l 0 [(0, 1)]), .cplx .f64 0 0, .str [], .int .i64 (.c 0), .int .i64 (.c 0), .nilslice]⟩),
  (2358, ⟨38, true, true, [.int .i64 (.c 3), .int .i64 (.l 0 [(0, 1)]), .cplx .f64 0 0, .str [], .int .i64 (.c 0), .int .i64 (.c 0), .nilslice]⟩)]
  c0 := 2391
  c1 := 2436
  hout := [(1529, ⟨180, false, false, [.bool true, .slice 2409 0 1 (.opn 0), .slice 2434 0 2 (.opn 0)]⟩),
  (2409, ⟨185, true, false, [.int .i64 (.c 0), .int .i64 (.c 6), .slice 2407 0 1 (.opn 0), .int .i64 (.c 0)]⟩),
  (2434, ⟨38, true, false, [.int .i64 (.c 3), .int .i64 (.l 0 [(0, 1)]), .cplx .f64 0 0, .str [], .int .i64 (.c 0), .int .i64 (.c 0), .nilslice, .int .i64 (.c 3), .int .i64 (.c 1), .cplx .f64 0 0, .str [], .int .i64 (.c 0), .int .i64 (.c 0), .nilslice]⟩),
  (2407, ⟨38, true, false, [.int .i64 (.c 3), .int .i64 (.l 0 [(0, 1)]), .cplx .f64 0 0, .str [], .int .i64 (.c 0), .int .i64 (.c 0), .nilslice]⟩)]
  out := .tup [.agg [.int .i64 (.c 1), .int .i64 (.c 0), .int .i64 (.c 0), .cplx .f64 0 0, .str [], .int .i64 (.c 0), .int .i64 (.c 0), .nilslice, .int .i64 (.c 0), .int .i64 (.c 0), .cplx .f64 0 0, .str [], .int .i64 (.c 0), .int .i64 (.c 0), .nilslice, .nilslice, .int .i64 (.c 0), .int .i64 (.c 0), .int .i64 (.c 0), .nilslice], .sc (.int .i64 (.c 1)), .sc (.int .i64 (.c 0))]
theorem do5_ok : MemoOk Tryz.prog 5 do5 := Known.run (ms := []) (.nil) do5 (by kernel_rfl)

end Go.Proofs.YtnnilbambpfhiaaGreatDoor.Ev
