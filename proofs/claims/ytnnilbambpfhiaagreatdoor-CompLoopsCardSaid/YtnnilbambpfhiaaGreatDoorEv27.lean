/-
  Calls that are known: one instruction of the machine.
-/
import Derived.Test.YtnnilbambpfhiaaGreatDoorEv26
namespace Go.Proofs.YtnnilbambpfhiaaGreatDoor.Ev
open Go
set_option maxRecDepth 100000

noncomputable def do6 : Memo where
  B := [(1, 999)]
  f := 71
  args := [.agg [.str [112], .slice 1169 0 1 (.opn 0)], .sc (.ptr 1529 0)]
  hin := [(1169, ⟨73, true, true, [.str [102], .int .i64 (.c 1), .int .i64 (.c 1), .slice 1156 0 11 (.opn 0)]⟩),
  (1529, ⟨180, false, false, [.bool true, .slice 2409 0 1 (.opn 0), .slice 2434 0 2 (.opn 0)]⟩),
  (1156, ⟨82, true, true, [.int .i64 (.c 4), .int .i64 (.c 0), .int .i64 (.c 0), .int .i64 (.c 0), .int .i64 (.c 0), .cplx .f64 0 0, .str [], .int .i64 (.c 0), .int .i64 (.c 0), .nilslice, .nilslice, .int .i64 (.c 1), .int .i64 (.c 0), .int .i64 (.c 0), .int .i64 (.c 3), .int .i64 (.c 0), .cplx .f64 0 0, .str [], .int .i64 (.c 0), .int .i64 (.c 0), .nilslice, .nilslice, .int .i64 (.c 14), .int .i64 (.c 0), .int .i64 (.c 0), .int .i64 (.c 0), .int .i64 (.c 0), .cplx .f64 0 0, .str [], .int .i64 (.c 0), .int .i64 (.c 0), .nilslice, .nilslice, .int .i64 (.c 26), .int .i64 (.c 9), .int .i64 (.c 0), .int .i64 (.c 0), .int .i64 (.c 0), .cplx .f64 0 0, .str [], .int .i64 (.c 0), .int .i64 (.c 0), .nilslice, .nilslice, .int .i64 (.c 4), .int .i64 (.c 0), .int .i64 (.c 0), .int .i64 (.c 0), .int .i64 (.c 0), .cplx .f64 0 0, .str [], .int .i64 (.c 0), .int .i64 (.c 0), .nilslice, .nilslice, .int .i64 (.c 1), .int .i64 (.c 0), .int .i64 (.c 0), .int .i64 (.c 3), .int .i64 (.c 1), .cplx .f64 0 0, .str [], .int .i64 (.c 0), .int .i64 (.c 0), .nilslice, .nilslice, .int .i64 (.c 7), .int .i64 (.c 0), .int .i64 (.c 0), .int .i64 (.c 0), .int .i64 (.c 0), .cplx .f64 0 0, .str [], .int .i64 (.c 0), .int .i64 (.c 0), .nilslice, .nilslice, .int .i64 (.c 5), .int .i64 (.c 0), .int .i64 (.c 0), .int .i64 (.c 0), .int .i64 (.c 0), .cplx .f64 0 0, .str [], .int .i64 (.c 0), .int .i64 (.c 0), .nilslice, .nilslice, .int .i64 (.c 25), .int .i64 (.c 0), .int .i64 (.c 0), .int .i64 (.c 0), .int .i64 (.c 0), .cplx .f64 0 0, .str [], .int .i64 (.c 0), .int .i64 (.c 0), .nilslice, .nilslice, .int .i64 (.c 1), .int .i64 (.c 0), .int .i64 (.c 0), .int .i64 (.c 5), .int .i64 (.c 0), .cplx .f64 0 0, .str [100, 111, 110, 101], .int .i64 (.c 0), .int .i64 (.c 0), .nilslice, .nilslice, .int .i64 (.c 29), .int .i64 (.c 0), .int .i64 (.c 0), .int .i64 (.c 0), .int .i64 (.c 0), .cplx .f64 0 0, .str [], .int .i64 (.c 0), .int .i64 (.c 0), .nilslice, .nilslice]⟩),
  (2409, ⟨185, true, true, [.int .i64 (.c 0), .int .i64 (.c 6), .slice 2407 0 1 (.opn 0), .int .i64 (.c 0)]⟩),
  (2434, ⟨38, true, true, [.int .i64 (.c 3), .int .i64 (.l 0 [(0, 1)]), .cplx .f64 0 0, .str [], .int .i64 (.c 0), .int .i64 (.c 0), .nilslice, .int .i64 (.c 3), .int .i64 (.c 1), .cplx .f64 0 0, .str [], .int .i64 (.c 0), .int .i64 (.c 0), .nilslice]⟩),
  (2407, ⟨38, true, true, [.int .i64 (.c 3), .int .i64 (.l 0 [(0, 1)]), .cplx .f64 0 0, .str [], .int .i64 (.c 0), .int .i64 (.c 0), .nilslice]⟩)]
  c0 := 2437
  c1 := 2543
  hout := [(1529, ⟨180, false, false, [.bool true, .slice 2455 0 1 (.opn 0), .slice 2541 0 1 (.opn 0)]⟩),
  (2455, ⟨185, true, false, [.int .i64 (.c 0), .int .i64 (.c 7), .slice 2453 0 1 (.opn 0), .int .i64 (.c 0)]⟩),
  (2541, ⟨38, true, false, [.int .i64 (.c 3), .int .i64 (.l (-1) [(0, 1)]), .cplx .f64 0 0, .str [], .int .i64 (.c 0), .int .i64 (.c 0), .nilslice]⟩),
  (2453, ⟨38, true, false, [.int .i64 (.c 3), .int .i64 (.l 0 [(0, 1)]), .cplx .f64 0 0, .str [], .int .i64 (.c 0), .int .i64 (.c 0), .nilslice]⟩)]
  out := .tup [.agg [.int .i64 (.c 1), .int .i64 (.c 0), .int .i64 (.c 0), .cplx .f64 0 0, .str [], .int .i64 (.c 0), .int .i64 (.c 0), .nilslice, .int .i64 (.c 0), .int .i64 (.c 0), .cplx .f64 0 0, .str [], .int .i64 (.c 0), .int .i64 (.c 0), .nilslice, .nilslice, .int .i64 (.c 0), .int .i64 (.c 0), .int .i64 (.c 0), .nilslice], .sc (.int .i64 (.c 1)), .sc (.int .i64 (.c 0))]
theorem do6_ok : MemoOk Tryz.prog 5 do6 := Known.run (ms := []) (.nil) do6 (by kernel_rfl)

noncomputable def do7 : Memo where
  B := [(0, 999)]
  f := 71
  args := [.agg [.str [112], .slice 1169 0 1 (.opn 0)], .sc (.ptr 1529 0)]
  hin := [(1169, ⟨73, true, true, [.str [102], .int .i64 (.c 1), .int .i64 (.c 1), .slice 1156 0 11 (.opn 0)]⟩),
  (1529, ⟨180, false, false, [.bool true, .slice 2455 0 1 (.opn 0), .slice 2541 0 1 (.opn 0)]⟩),
  (1156, ⟨82, true, true, [.int .i64 (.c 4), .int .i64 (.c 0), .int .i64 (.c 0), .int .i64 (.c 0), .int .i64 (.c 0), .cplx .f64 0 0, .str [], .int .i64 (.c 0), .int .i64 (.c 0), .nilslice, .nilslice, .int .i64 (.c 1), .int .i64 (.c 0), .int .i64 (.c 0), .int .i64 (.c 3), .int .i64 (.c 0), .cplx .f64 0 0, .str [], .int .i64 (.c 0), .int .i64 (.c 0), .nilslice, .nilslice, .int .i64 (.c 14), .int .i64 (.c 0), .int .i64 (.c 0), .int .i64 (.c 0), .int .i64 (.c 0), .cplx .f64 0 0, .str [], .int .i64 (.c 0), .int .i64 (.c 0), .nilslice, .nilslice, .int .i64 (.c 26), .int .i64 (.c 9), .int .i64 (.c 0), .int .i64 (.c 0), .int .i64 (.c 0), .cplx .f64 0 0, .str [], .int .i64 (.c 0), .int .i64 (.c 0), .nilslice, .nilslice, .int .i64 (.c 4), .int .i64 (.c 0), .int .i64 (.c 0), .int .i64 (.c 0), .int .i64 (.c 0), .cplx .f64 0 0, .str [], .int .i64 (.c 0), .int .i64 (.c 0), .nilslice, .nilslice, .int .i64 (.c 1), .int .i64 (.c 0), .int .i64 (.c 0), .int .i64 (.c 3), .int .i64 (.c 1), .cplx .f64 0 0, .str [], .int .i64 (.c 0), .int .i64 (.c 0), .nilslice, .nilslice, .int .i64 (.c 7), .int .i64 (.c 0), .int .i64 (.c 0), .int .i64 (.c 0), .int .i64 (.c 0), .cplx .f64 0 0, .str [], .int .i64 (.c 0), .int .i64 (.c 0), .nilslice, .nilslice, .int .i64 (.c 5), .int .i64 (.c 0), .int .i64 (.c 0), .int .i64 (.c 0), .int .i64 (.c 0), .cplx .f64 0 0, .str [], .int .i64 (.c 0), .int .i64 (.c 0), .nilslice, .nilslice, .int .i64 (.c 25), .int .i64 (.c 0), .int .i64 (.c 0), .int .i64 (.c 0), .int .i64 (.c 0), .cplx .f64 0 0, .str [], .int .i64 (.c 0), .int .i64 (.c 0), .nilslice, .nilslice, .int .i64 (.c 1), .int .i64 (.c 0), .int .i64 (.c 0), .int .i64 (.c 5), .int .i64 (.c 0), .cplx .f64 0 0, .str [100, 111, 110, 101], .int .i64 (.c 0), .int .i64 (.c 0), .nilslice, .nilslice, .int .i64 (.c 29), .int .i64 (.c 0), .int .i64 (.c 0), .int .i64 (.c 0), .int .i64 (.c 0), .cplx .f64 0 0, .str [], .int .i64 (.c 0), .int .i64 (.c 0), .nilslice, .nilslice]⟩),
  (2455, ⟨185, true, true, [.int .i64 (.c 0), .int .i64 (.c 7), .slice 2453 0 1 (.opn 0), .int .i64 (.c 0)]⟩),
  (2541, ⟨38, true, true, [.int .i64 (.c 3), .int .i64 (.l 0 [(0, 1)]), .cplx .f64 0 0, .str [], .int .i64 (.c 0), .int .i64 (.c 0), .nilslice]⟩),
  (2453, ⟨38, true, true, [.int .i64 (.c 3), .int .i64 (.l 1 [(0, 1)]), .cplx .f64 0 0, .str [], .int .i64 (.c 0), .int .i64 (.c 0), .nilslice]⟩)]
  c0 := 2544
  c1 := 2594
  hout := [(1529, ⟨180, false, false, [.bool true, .slice 2562 0 1 (.opn 0), .slice 2556 0 0 (.opn 0)]⟩),
  (2562, ⟨185, true, false, [.int .i64 (.c 0), .int .i64 (.c 8), .slice 2560 0 1 (.opn 0), .int .i64 (.c 0)]⟩),
  (2556, ⟨38, true, false, [.int .i64 (.c 3), .int .i64 (.l 0 [(0, 1)]), .cplx .f64 0 0, .str [], .int .i64 (.c 0), .int .i64 (.c 0), .nilslice]⟩),
  (2560, ⟨38, true, false, [.int .i64 (.c 3), .int .i64 (.l 0 [(0, 1)]), .cplx .f64 0 0, .str [], .int .i64 (.c 0), .int .i64 (.c 0), .nilslice]⟩)]
  out := .tup [.agg [.int .i64 (.c 1), .int .i64 (.c 0), .int .i64 (.c 0), .cplx .f64 0 0, .str [], .int .i64 (.c 0), .int .i64 (.c 0), .nilslice, .int .i64 (.c 0), .int .i64 (.c 0), .cplx .f64 0 0, .str [], .int .i64 (.c 0), .int .i64 (.c 0), .nilslice, .nilslice, .int .i64 (.c 0), .int .i64 (.c 0), .int .i64 (.c 0), .nilslice], .sc (.int .i64 (.c 1)), .sc (.int .i64 (.c 0))]
theorem do7_ok : MemoOk Tryz.prog 5 do7 := Known.run (ms := []) (.nil) do7 (by kernel_rfl)

noncomputable def do8 : Memo where
  B := [(0, 999)]
  f := 71
  args := [.agg [.str [112], .slice 1169 0 1 (.opn 0)], .sc (.ptr 1529 0)]
  hin := [(1169, ⟨73, true, true, [.str [102], .int .i64 (.c 1), .int .i64 (.c 1), .slice 1156 0 11 (.opn 0)]⟩),
  (1529, ⟨180, false, false, [.bool true, .slice 2562 0 1 (.opn 0), .slice 2556 0 0 (.opn 0)]⟩),
  (1156, ⟨82, true, true, [.int .i64 (.c 4), .int .i64 (.c 0), .int .i64 (.c 0), .int .i64 (.c 0), .int .i64 (.c 0), .cplx .f64 0 0, .str [], .int .i64 (.c 0), .int .i64 (.c 0), .nilslice, .nilslice, .int .i64 (.c 1), .int .i64 (.c 0), .int .i64 (.c 0), .int .i64 (.c 3), .int .i64 (.c 0), .cplx .f64 0 0, .str [], .int .i64 (.c 0), .int .i64 (.c 0), .nilslice, .nilslice, .int .i64 (.c 14), .int .i64 (.c 0), .int .i64 (.c 0), .int .i64 (.c 0), .int .i64 (.c 0), .cplx .f64 0 0, .str [], .int .i64 (.c 0), .int .i64 (.c 0), .nilslice, .nilslice, .int .i64 (.c 26), .int .i64 (.c 9), .int .i64 (.c 0), .int .i64 (.c 0), .int .i64 (.c 0), .cplx .f64 0 0, .str [], .int .i64 (.c 0), .int .i64 (.c 0), .nilslice, .nilslice, .int .i64 (.c 4), .int .i64 (.c 0), .int .i64 (.c 0), .int .i64 (.c 0), .int .i64 (.c 0), .cplx .f64 0 0, .str [], .int .i64 (.c 0), .int .i64 (.c 0), .nilslice, .nilslice, .int .i64 (.c 1), .int .i64 (.c 0), .int .i64 (.c 0), .int .i64 (.c 3), .int .i64 (.c 1), .cplx .f64 0 0, .str [], .int .i64 (.c 0), .int .i64 (.c 0), .nilslice, .nilslice, .int .i64 (.c 7), .int .i64 (.c 0), .int .i64 (.c 0), .int .i64 (.c 0), .int .i64 (.c 0), .cplx .f64 0 0, .str [], .int .i64 (.c 0), .int .i64 (.c 0), .nilslice, .nilslice, .int .i64 (.c 5), .int .i64 (.c 0), .int .i64 (.c 0), .int .i64 (.c 0), .int .i64 (.c 0), .cplx .f64 0 0, .str [], .int .i64 (.c 0), .int .i64 (.c 0), .nilslice, .nilslice, .int .i64 (.c 25), .int .i64 (.c 0), .int .i64 (.c 0), .int .i64 (.c 0), .int .i64 (.c 0), .cplx .f64 0 0, .str [], .int .i64 (.c 0), .int .i64 (.c 0), .nilslice, .nilslice, .int .i64 (.c 1), .int .i64 (.c 0), .int .i64 (.c 0), .int .i64 (.c 5), .int .i64 (.c 0), .cplx .f64 0 0, .str [100, 111, 110, 101], .int .i64 (.c 0), .int .i64 (.c 0), .nilslice, .nilslice, .int .i64 (.c 29), .int .i64 (.c 0), .int .i64 (.c 0), .int .i64 (.c 0), .int .i64 (.c 0), .cplx .f64 0 0, .str [], .int .i64 (.c 0), .int .i64 (.c 0), .nilslice, .nilslice]⟩),
  (2562, ⟨185, true, true, [.int .i64 (.c 0), .int .i64 (.c 8), .slice 2560 0 1 (.opn 0), .int .i64 (.c 0)]⟩),
  (2556, ⟨38, true, true, [.int .i64 (.c 3), .int .i64 (.l 0 [(0, 1)]), .cplx .f64 0 0, .str [], .int .i64 (.c 0), .int .i64 (.c 0), .nilslice]⟩),
  (2560, ⟨38, true, true, [.int .i64 (.c 3), .int .i64 (.l 0 [(0, 1)]), .cplx .f64 0 0, .str [], .int .i64 (.c 0), .int .i64 (.c 0), .nilslice]⟩)]
  c0 := 2595
  c1 := 2635
  hout := [(1529, ⟨180, false, false, [.bool true, .slice 2611 0 1 (.opn 0), .slice 2605 0 0 (.exact 0)]⟩),
  (2611, ⟨185, true, false, [.int .i64 (.c 0), .int .i64 (.c 0), .slice 2609 0 1 (.opn 0), .int .i64 (.c 0)]⟩),
  (2605, ⟨38, false, false, []⟩),
  (2609, ⟨38, true, false, [.int .i64 (.c 3), .int .i64 (.l 0 [(0, 1)]), .cplx .f64 0 0, .str [], .int .i64 (.c 0), .int .i64 (.c 0), .nilslice]⟩)]
  out := .tup [.agg [.int .i64 (.c 1), .int .i64 (.c 0), .int .i64 (.c 0), .cplx .f64 0 0, .str [], .int .i64 (.c 0), .int .i64 (.c 0), .nilslice, .int .i64 (.c 0), .int .i64 (.c 0), .cplx .f64 0 0, .str [], .int .i64 (.c 0), .int .i64 (.c 0), .nilslice, .nilslice, .int .i64 (.c 0), .int .i64 (.c 0), .int .i64 (.c 0), .nilslice], .sc (.int .i64 (.c 1)), .sc (.int .i64 (.c 0))]
theorem do8_ok : MemoOk Tryz.prog 5 do8 := Known.run (ms := []) (.nil) do8 (by kernel_rfl)

noncomputable def do2z : Memo where
  B := [(0, 0)]
  f := 71
  args := [.agg [.str [112], .slice 1169 0 1 (.opn 0)], .sc (.ptr 1529 0)]
  hin := [(1169, ⟨73, true, true, [.str [102], .int .i64 (.c 1), .int .i64 (.c 1), .slice 1156 0 11 (.opn 0)]⟩),
  (1529, ⟨180, false, false, [.bool true, .slice 2701 0 1 (.opn 0), .slice 2726 0 2 (.opn 0)]⟩),
  (1156, ⟨82, true, true, [.int .i64 (.c 4), .int .i64 (.c 0), .int .i64 (.c 0), .int .i64 (.c 0), .int .i64 (.c 0), .cplx .f64 0 0, .str [], .int .i64 (.c 0), .int .i64 (.c 0), .nilslice, .nilslice, .int .i64 (.c 1), .int .i64 (.c 0), .int .i64 (.c 0), .int .i64 (.c 3), .int .i64 (.c 0), .cplx .f64 0 0, .str [], .int .i64 (.c 0), .int .i64 (.c 0), .nilslice, .nilslice, .int .i64 (.c 14), .int .i64 (.c 0), .int .i64 (.c 0), .int .i64 (.c 0), .int .i64 (.c 0), .cplx .f64 0 0, .str [], .int .i64 (.c 0), .int .i64 (.c 0), .nilslice, .nilslice, .int .i64 (.c 26), .int .i64 (.c 9), .int .i64 (.c 0), .int .i64 (.c 0), .int .i64 (.c 0), .cplx .f64 0 0, .str [], .int .i64 (.c 0), .int .i64 (.c 0), .nilslice, .nilslice, .int .i64 (.c 4), .int .i64 (.c 0), .int .i64 (.c 0), .int .i64 (.c 0), .int .i64 (.c 0), .cplx .f64 0 0, .str [], .int .i64 (.c 0), .int .i64 (.c 0), .nilslice, .nilslice, .int .i64 (.c 1), .int .i64 (.c 0), .int .i64 (.c 0), .int .i64 (.c 3), .int .i64 (.c 1), .cplx .f64 0 0, .str [], .int .i64 (.c 0), .int .i64 (.c 0), .nilslice, .nilslice, .int .i64 (.c 7), .int .i64 (.c 0), .int .i64 (.c 0), .int .i64 (.c 0), .int .i64 (.c 0), .cplx .f64 0 0, .str [], .int .i64 (.c 0), .int .i64 (.c 0), .nilslice, .nilslice, .int .i64 (.c 5), .int .i64 (.c 0), .int .i64 (.c 0), .int .i64 (.c 0), .int .i64 (.c 0), .cplx .f64 0 0, .str [], .int .i64 (.c 0), .int .i64 (.c 0), .nilslice, .nilslice, .int .i64 (.c 25), .int .i64 (.c 0), .int .i64 (.c 0), .int .i64 (.c 0), .int .i64 (.c 0), .cplx .f64 0 0, .str [], .int .i64 (.c 0), .int .i64 (.c 0), .nilslice, .nilslice, .int .i64 (.c 1), .int .i64 (.c 0), .int .i64 (.c 0), .int .i64 (.c 5), .int .i64 (.c 0), .cplx .f64 0 0, .str [100, 111, 110, 101], .int .i64 (.c 0), .int .i64 (.c 0), .nilslice, .nilslice, .int .i64 (.c 29), .int .i64 (.c 0), .int .i64 (.c 0), .int .i64 (.c 0), .int .i64 (.c 0), .cplx .f64 0 0, .str [], .int .i64 (.c 0), .int .i64 (.c 0), .nilslice, .nilslice]⟩),
  (2701, ⟨185, true, true, [.int .i64 (.c 0), .int .i64 (.c 2), .slice 2699 0 1 (.opn 0), .int .i64 (.c 0)]⟩),
  (2726, ⟨38, true, true, [.int .i64 (.c 3), .int .i64 (.l 0 [(0, 1)]), .cplx .f64 0 0, .str [], .int .i64 (.c 0), .int .i64 (.c 0), .nilslice, .int .i64 (.c 3), .int .i64 (.c 0), .cplx .f64 0 0, .str [], .int .i64 (.c 0), .int .i64 (.c 0), .nilslice]⟩),
  (2699, ⟨38, true, true, [.int .i64 (.c 3), .int .i64 (.l 0 [(0, 1)]), .cplx .f64 0 0, .str [], .int .i64 (.c 0), .int .i64 (.c 0), .nilslice]⟩)]
  c0 := 2729
  c1 := 2832
  hout := [(1529, ⟨180, false, false, [.bool true, .slice 2747 0 1 (.opn 0), .slice 2830 0 1 (.opn 0)]⟩),
  (2747, ⟨185, true, false, [.int .i64 (.c 0), .int .i64 (.c 3), .slice 2745 0 1 (.opn 0), .int .i64 (.c 0)]⟩),
  (2830, ⟨38, true, false, [.int .i64 (.c 2), .int .i64 (.c 1), .cplx .f64 0 0, .str [], .int .i64 (.c 0), .int .i64 (.c 0), .nilslice]⟩),
  (2745, ⟨38, true, false, [.int .i64 (.c 3), .int .i64 (.l 0 [(0, 1)]), .cplx .f64 0 0, .str [], .int .i64 (.c 0), .int .i64 (.c 0), .nilslice]⟩)]
  out := .tup [.agg [.int .i64 (.c 1), .int .i64 (.c 0), .int .i64 (.c 0), .cplx .f64 0 0, .str [], .int .i64 (.c 0), .int .i64 (.c 0), .nilslice, .int .i64 (.c 0), .int .i64 (.c 0), .cplx .f64 0 0, .str [], .int .i64 (.c 0), .int .i64 (.c 0), .nilslice, .nilslice, .int .i64 (.c 0), .int .i64 (.c 0), .int .i64 (.c 0), .nilslice], .sc (.int .i64 (.c 1)), .sc (.int .i64 (.c 0))]
theorem do2z_ok : MemoOk Tryz.prog 5 do2z := Known.run (ms := []) (.nil) do2z (by kernel_rfl)

noncomputable def do3z : Memo where
  B := [(0, 0)]
  f := 71
  args := [.agg [.str [112], .slice 1169 0 1 (.opn 0)], .sc (.ptr 1529 0)]
  hin := [(1169, ⟨73, true, true, [.str [102], .int .i64 (.c 1), .int .i64 (.c 1), .slice 1156 0 11 (.opn 0)]⟩),
  (1529, ⟨180, false, false, [.bool true, .slice 2747 0 1 (.opn 0), .slice 2830 0 1 (.opn 0)]⟩),
  (1156, ⟨82, true, true, [.int .i64 (.c 4), .int .i64 (.c 0), .int .i64 (.c 0), .int .i64 (.c 0), .int .i64 (.c 0), .cplx .f64 0 0, .str [], .int .i64 (.c 0), .int .i64 (.c 0), .nilslice, .nilslice, .int .i64 (.c 1), .int .i64 (.c 0), .int .i64 (.c 0), .int .i64 (.c 3), .int .i64 (.c 0), .cplx .f64 0 0, .str [], .int .i64 (.c 0), .int .i64 (.c 0), .nilslice, .nilslice, .int .i64 (.c 14), .int .i64 (.c 0), .int .i64 (.c 0), .int .i64 (.c 0), .int .i64 (.c 0), .cplx .f64 0 0, .str [], .int .i64 (.c 0), .int .i64 (.c 0), .nilslice, .nilslice, .int .i64 (.c 26), .int .i64 (.c 9), .int .i64 (.c 0), .int .i64 (.c 0), .int .i64 (.c 0), .cplx .f64 0 0, .str [], .int .i64 (.c 0), .int .i64 (.c 0), .nilslice, .nilslice, .int .i64 (.c 4), .int .i64 (.c 0), .int .i64 (.c 0), .int .i64 (.c 0), .int .i64 (.c 0), .cplx .f64 0 0, .str [], .int .i64 (.c 0), .int .i64 (.c 0), .nilslice, .nilslice, .int .i64 (.c 1), .int .i64 (.c 0), .int .i64 (.c 0), .int .i64 (.c 3), .int .i64 (.c 1), .cplx .f64 0 0, .str [], .int .i64 (.c 0), .int .i64 (.c 0), .nilslice, .nilslice, .int .i64 (.c 7), .int .i64 (.c 0), .int .i64 (.c 0), .int .i64 (.c 0), .int .i64 (.c 0), .cplx .f64 0 0, .str [], .int .i64 (.c 0), .int .i64 (.c 0), .nilslice, .nilslice, .int .i64 (.c 5), .int .i64 (.c 0), .int .i64 (.c 0), .int .i64 (.c 0), .int .i64 (.c 0), .cplx .f64 0 0, .str [], .int .i64 (.c 0), .int .i64 (.c 0), .nilslice, .nilslice, .int .i64 (.c 25), .int .i64 (.c 0), .int .i64 (.c 0), .int .i64 (.c 0), .int .i64 (.c 0), .cplx .f64 0 0, .str [], .int .i64 (.c 0), .int .i64 (.c 0), .nilslice, .nilslice, .int .i64 (.c 1), .int .i64 (.c 0), .int .i64 (.c 0), .int .i64 (.c 5), .int .i64 (.c 0), .cplx .f64 0 0, .str [100, 111, 110, 101], .int .i64 (.c 0), .int .i64 (.c 0), .nilslice, .nilslice, .int .i64 (.c 29), .int .i64 (.c 0), .int .i64 (.c 0), .int .i64 (.c 0), .int .i64 (.c 0), .cplx .f64 0 0, .str [], .int .i64 (.c 0), .int .i64 (.c 0), .nilslice, .nilslice]⟩),
  (2747, ⟨185, true, true, [.int .i64 (.c 0), .int .i64 (.c 3), .slice 2745 0 1 (.opn 0), .int .i64 (.c 0)]⟩),
  (2830, ⟨38, true, true, [.int .i64 (.c 2), .int .i64 (.c 1), .cplx .f64 0 0, .str [], .int .i64 (.c 0), .int .i64 (.c 0), .nilslice]⟩),
  (2745, ⟨38, true, true, [.int .i64 (.c 3), .int .i64 (.l 0 [(0, 1)]), .cplx .f64 0 0, .str [], .int .i64 (.c 0), .int .i64 (.c 0), .nilslice]⟩)]
  c0 := 2833
  c1 := 2885
  hout := [(1529, ⟨180, false, false, [.bool true, .slice 2851 0 1 (.opn 0), .slice 2845 0 0 (.opn 0)]⟩),
  (2851, ⟨185, true, false, [.int .i64 (.c 0), .int .i64 (.c 9), .slice 2849 0 1 (.opn 0), .int .i64 (.c 0)]⟩),
  (2845, ⟨38, true, false, [.int .i64 (.c 2), .int .i64 (.c 1), .cplx .f64 0 0, .str [], .int .i64 (.c 0), .int .i64 (.c 0), .nilslice]⟩),
  (2849, ⟨38, true, false, [.int .i64 (.c 3), .int .i64 (.l 0 [(0, 1)]), .cplx .f64 0 0, .str [], .int .i64 (.c 0), .int .i64 (.c 0), .nilslice]⟩)]
  out := .tup [.agg [.int .i64 (.c 1), .int .i64 (.c 0), .int .i64 (.c 0), .cplx .f64 0 0, .str [], .int .i64 (.c 0), .int .i64 (.c 0), .nilslice, .int .i64 (.c 0), .int .i64 (.c 0), .cplx .f64 0 0, .str [], .int .i64 (.c 0), .int .i64 (.c 0), .nilslice, .nilslice, .int .i64 (.c 0), .int .i64 (.c 0), .int .i64 (.c 0), .nilslice], .sc (.int .i64 (.c 1)), .sc (.int .i64 (.c 0))]
theorem do3z_ok : MemoOk Tryz.prog 5 do3z := Known.run (ms := []) (.nil) do3z (by kernel_rfl)

noncomputable def do9 : Memo where
  B := [(0, 0)]
  f := 71
  args := [.agg [.str [112], .slice 1169 0 1 (.opn 0)], .sc (.ptr 1529 0)]
  hin := [(1169, ⟨73, true, true, [.str [102], .int .i64 (.c 1), .int .i64 (.c 1), .slice 1156 0 11 (.opn 0)]⟩),
  (1529, ⟨180, false, false, [.bool true, .slice 2851 0 1 (.opn 0), .slice 2845 0 0 (.opn 0)]⟩),
  (1156, ⟨82, true, true, [.int .i64 (.c 4), .int .i64 (.c 0), .int .i64 (.c 0), .int .i64 (.c 0), .int .i64 (.c 0), .cplx .f64 0 0, .str [], .int .i64 (.c 0), .int .i64 (.c 0), .nilslice, .nilslice, .int .i64 (.c 1), .int .i64 (.c 0), .int .i64 (.c 0), .int .i64 (.c 3), .int .i64 (.c 0), .cplx .f64 0 0, .str [], .int .i64 (.c 0), .int .i64 (.c 0), .nilslice, .nilslice, .int .i64 (.c 14), .int .i64 (.c 0), .int .i64 (.c 0), .int .i64 (.c 0), .int .i64 (.c 0), .cplx .f64 0 0, .str [], .int .i64 (.c 0), .int .i64 (.c 0), .nilslice, .nilslice, .int .i64 (.c 26), .int .i64 (.c 9), .int .i64 (.c 0), .int .i64 (.c 0), .int .i64 (.c 0), .cplx .f64 0 0, .str [], .int .i64 (.c 0), .int .i64 (.c 0), .nilslice, .nilslice, .int .i64 (.c 4), .int .i64 (.c 0), .int .i64 (.c 0), .int .i64 (.c 0), .int .i64 (.c 0), .cplx .f64 0 0, .str [], .int .i64 (.c 0), .int .i64 (.c 0), .nilslice, .nilslice, .int .i64 (.c 1), .int .i64 (.c 0), .int .i64 (.c 0), .int .i64 (.c 3), .int .i64 (.c 1), .cplx .f64 0 0, .str [], .int .i64 (.c 0), .int .i64 (.c 0), .nilslice, .nilslice, .int .i64 (.c 7), .int .i64 (.c 0), .int .i64 (.c 0), .int .i64 (.c 0), .int .i64 (.c 0), .cplx .f64 0 0, .str [], .int .i64 (.c 0), .int .i64 (.c 0), .nilslice, .nilslice, .int .i64 (.c 5), .int .i64 (.c 0), .int .i64 (.c 0), .int .i64 (.c 0), .int .i64 (.c 0), .cplx .f64 0 0, .str [], .int .i64 (.c 0), .int .i64 (.c 0), .nilslice, .nilslice, .int .i64 (.c 25), .int .i64 (.c 0), .int .i64 (.c 0), .int .i64 (.c 0), .int .i64 (.c 0), .cplx .f64 0 0, .str [], .int .i64 (.c 0), .int .i64 (.c 0), .nilslice, .nilslice, .int .i64 (.c 1), .int .i64 (.c 0), .int .i64 (.c 0), .int .i64 (.c 5), .int .i64 (.c 0), .cplx .f64 0 0, .str [100, 111, 110, 101], .int .i64 (.c 0), .int .i64 (.c 0), .nilslice, .nilslice, .int .i64 (.c 29), .int .i64 (.c 0), .int .i64 (.c 0), .int .i64 (.c 0), .int .i64 (.c 0), .cplx .f64 0 0, .str [], .int .i64 (.c 0), .int .i64 (.c 0), .nilslice, .nilslice]⟩),
  (2851, ⟨185, true, true, [.int .i64 (.c 0), .int .i64 (.c 9), .slice 2849 0 1 (.opn 0), .int .i64 (.c 0)]⟩),
  (2845, ⟨38, true, true, [.int .i64 (.c 2), .int .i64 (.c 1), .cplx .f64 0 0, .str [], .int .i64 (.c 0), .int .i64 (.c 0), .nilslice]⟩),
  (2849, ⟨38, true, true, [.int .i64 (.c 3), .int .i64 (.l 0 [(0, 1)]), .cplx .f64 0 0, .str [], .int .i64 (.c 0), .int .i64 (.c 0), .nilslice]⟩)]
  c0 := 2886
  c1 := 2928
  hout := [(1529, ⟨180, false, false, [.bool true, .slice 2902 0 1 (.opn 0), .slice 2926 0 1 (.opn 0)]⟩),
  (2902, ⟨185, true, false, [.int .i64 (.c 0), .int .i64 (.c 10), .slice 2900 0 1 (.opn 0), .int .i64 (.c 0)]⟩),
  (2926, ⟨38, true, false, [.int .i64 (.c 5), .int .i64 (.c 0), .cplx .f64 0 0, .str [100, 111, 110, 101], .int .i64 (.c 0), .int .i64 (.c 0), .nilslice]⟩),
  (2900, ⟨38, true, false, [.int .i64 (.c 3), .int .i64 (.l 0 [(0, 1)]), .cplx .f64 0 0, .str [], .int .i64 (.c 0), .int .i64 (.c 0), .nilslice]⟩)]
  out := .tup [.agg [.int .i64 (.c 1), .int .i64 (.c 0), .int .i64 (.c 0), .cplx .f64 0 0, .str [], .int .i64 (.c 0), .int .i64 (.c 0), .nilslice, .int .i64 (.c 0), .int .i64 (.c 0), .cplx .f64 0 0, .str [], .int .i64 (.c 0), .int .i64 (.c 0), .nilslice, .nilslice, .int .i64 (.c 0), .int .i64 (.c 0), .int .i64 (.c 0), .nilslice], .sc (.int .i64 (.c 1)), .sc (.int .i64 (.c 0))]
theorem do9_ok : MemoOk Tryz.prog 5 do9 := Known.run (ms := []) (.nil) do9 (by kernel_rfl)

noncomputable def do10 : Memo where
  B := [(0, 0)]
  f := 71
  args := [.agg [.str [112], .slice 1169 0 1 (.opn 0)], .sc (.ptr 1529 0)]
  hin := [(1169, ⟨73, true, true, [.str [102], .int .i64 (.c 1), .int .i64 (.c 1), .slice 1156 0 11 (.opn 0)]⟩),
  (1529, ⟨180, false, false, [.bool true, .slice 2902 0 1 (.opn 0), .slice 2926 0 1 (.opn 0)]⟩),
  (1156, ⟨82, true, true, [.int .i64 (.c 4), .int .i64 (.c 0), .int .i64 (.c 0), .int .i64 (.c 0), .int .i64 (.c 0), .cplx .f64 0 0, .str [], .int .i64 (.c 0), .int .i64 (.c 0), .nilslice, .nilslice, .int .i64 (.c 1), .int .i64 (.c 0), .int .i64 (.c 0), .int .i64 (.c 3), .int .i64 (.c 0), .cplx .f64 0 0, .str [], .int .i64 (.c 0), .int .i64 (.c 0), .nilslice, .nilslice, .int .i64 (.c 14), .int .i64 (.c 0), .int .i64 (.c 0), .int .i64 (.c 0), .int .i64 (.c 0), .cplx .f64 0 0, .str [], .int .i64 (.c 0), .int .i64 (.c 0), .nilslice, .nilslice, .int .i64 (.c 26), .int .i64 (.c 9), .int .i64 (.c 0), .int .i64 (.c 0), .int .i64 (.c 0), .cplx .f64 0 0, .str [], .int .i64 (.c 0), .int .i64 (.c 0), .nilslice, .nilslice, .int .i64 (.c 4), .int .i64 (.c 0), .int .i64 (.c 0), .int .i64 (.c 0), .int .i64 (.c 0), .cplx .f64 0 0, .str [], .int .i64 (.c 0), .int .i64 (.c 0), .nilslice, .nilslice, .int .i64 (.c 1), .int .i64 (.c 0), .int .i64 (.c 0), .int .i64 (.c 3), .int .i64 (.c 1), .cplx .f64 0 0, .str [], .int .i64 (.c 0), .int .i64 (.c 0), .nilslice, .nilslice, .int .i64 (.c 7), .int .i64 (.c 0), .int .i64 (.c 0), .int .i64 (.c 0), .int .i64 (.c 0), .cplx .f64 0 0, .str [], .int .i64 (.c 0), .int .i64 (.c 0), .nilslice, .nilslice, .int .i64 (.c 5), .int .i64 (.c 0), .int .i64 (.c 0), .int .i64 (.c 0), .int .i64 (.c 0), .cplx .f64 0 0, .str [], .int .i64 (.c 0), .int .i64 (.c 0), .nilslice, .nilslice, .int .i64 (.c 25), .int .i64 (.c 0), .int .i64 (.c 0), .int .i64 (.c 0), .int .i64 (.c 0), .cplx .f64 0 0, .str [], .int .i64 (.c 0), .int .i64 (.c 0), .nilslice, .nilslice, .int .i64 (.c 1), .int .i64 (.c 0), .int .i64 (.c 0), .int .i64 (.c 5), .int .i64 (.c 0), .cplx .f64 0 0, .str [100, 111, 110, 101], .int .i64 (.c 0), .int .i64 (.c 0), .nilslice, .nilslice, .int .i64 (.c 29), .int .i64 (.c 0), .int .i64 (.c 0), .int .i64 (.c 0), .int .i64 (.c 0), .cplx .f64 0 0, .str [], .int .i64 (.c 0), .int .i64 (.c 0), .nilslice, .nilslice]⟩),
  (2902, ⟨185, true, true, [.int .i64 (.c 0), .int .i64 (.c 10), .slice 2900 0 1 (.opn 0), .int .i64 (.c 0)]⟩),
  (2926, ⟨38, true, true, [.int .i64 (.c 5), .int .i64 (.c 0), .cplx .f64 0 0, .str [100, 111, 110, 101], .int .i64 (.c 0), .int .i64 (.c 0), .nilslice]⟩),
  (2900, ⟨38, true, true, [.int .i64 (.c 3), .int .i64 (.l 0 [(0, 1)]), .cplx .f64 0 0, .str [], .int .i64 (.c 0), .int .i64 (.c 0), .nilslice]⟩)]
  c0 := 2929
  c1 := 2993
  hout := [(2960, ⟨38, false, false, [.int .i64 (.c 5), .int .i64 (.c 0), .cplx .f64 0 0, .str [100, 111, 110, 101], .int .i64 (.c 0), .int .i64 (.c 0), .nilslice]⟩),
  (1529, ⟨180, false, false, [.bool true, .slice 2947 0 0 (.opn 0), .slice 2991 0 1 (.opn 0)]⟩),
  (2947, ⟨185, true, false, [.int .i64 (.c 0), .int .i64 (.c 10), .slice 2945 0 1 (.opn 0), .int .i64 (.c 0)]⟩),
  (2991, ⟨38, true, false, [.int .i64 (.c 5), .int .i64 (.c 0), .cplx .f64 0 0, .str [100, 111, 110, 101], .int .i64 (.c 0), .int .i64 (.c 0), .nilslice]⟩),
  (2945, ⟨38, true, false, [.int .i64 (.c 3), .int .i64 (.l 0 [(0, 1)]), .cplx .f64 0 0, .str [], .int .i64 (.c 0), .int .i64 (.c 0), .nilslice]⟩)]
  out := .tup [.agg [.int .i64 (.c 17), .int .i64 (.c 0), .int .i64 (.c 0), .cplx .f64 0 0, .str [], .int .i64 (.c 0), .int .i64 (.c 0), .nilslice, .int .i64 (.c 5), .int .i64 (.c 0), .cplx .f64 0 0, .str [110, 111, 114, 109, 97, 108], .int .i64 (.c 0), .int .i64 (.c 0), .nilslice, .nilslice, .int .i64 (.c 0), .int .i64 (.c 0), .int .i64 (.c 0), .slice 2960 0 1 (.exact 1)], .sc (.int .i64 (.c 1)), .sc (.int .i64 (.c 0))]
theorem do10_ok : MemoOk Tryz.prog 5 do10 := Known.run (ms := []) (.nil) do10 (by kernel_rfl)

end Go.Proofs.YtnnilbambpfhiaaGreatDoor.Ev
