/-
  The loop of the slices: its states.
-/
import Derived.Test.YtnnilbambpfhiaaGreatDoorEv27
import Derived.Test.YtnnilbambpfhiaaGreatDoorEv29
namespace Go.Proofs.YtnnilbambpfhiaaGreatDoor.Ev
open Go
set_option maxRecDepth 100000

noncomputable def dos : List Memo := [do0i, do0, do1, do2, do3, do4, do5, do6, do7, do8, do2z, do3z, do9, do10]
theorem dos_ok : Known dos := .cons do0i_ok (.cons do0_ok (.cons do1_ok (.cons do2_ok (.cons do3_ok (.cons do4_ok (.cons do5_ok (.cons do6_ok (.cons do7_ok (.cons do8_ok (.cons do2z_ok (.cons do3z_ok (.cons do9_ok (.cons do10_ok (.nil))))))))))))))
def path18 : List Bool := [false, false, false, false, false, false, false, false, false, true, false, true]
/-- the loop's body -/
noncomputable def body18 : Code := loopAt Tryz.prog 18 path18
theorem at18 : codeAt path18 (bodyOf Tryz.prog 18) = some (.loop body18) := by kernel_rfl
noncomputable def A0i : Tm where
  tin := [(4, .one (.sc (.int .i64 (.c 400)))),
  (5, .one (.sc (.ptr 1348 0))),
  (10, .one (.sc (.ptr 1349 0))),
  (13, .one (.sc (.ptr 1527 0))),
  (17, .one (.sc (.ptr 1544 0))),
  (18, .one (.sc (.ptr 1545 0))),
  (20, .one (.sc (.func 35 [(1544, 0)]))),
  (19, .one (.sc (.int .i64 (.l 0 [(2, 1)])))),
  (21, .one (.sc (.int .i64 (.l 0 [(1, 1)]))))]
  hin := [(1348, ⟨25, false, true, [.str [112], .slice 1169 0 1 (.opn 0)]⟩),
  (1349, ⟨41, false, true, [.int .i64 (.c 0), .int .i64 (.c 0), .int .i64 (.c 0), .cplx .f64 0 0, .str [], .int .i64 (.c 0), .int .i64 (.c 0), .nilslice, .nilslice, .nilslice, .int .i64 (.c 0)]⟩),
  (1527, ⟨180, false, false, [.bool true, .slice 1541 0 1 (.opn 0), .slice 1537 0 0 (.opn 0)]⟩),
  (1544, ⟨120, false, true, [.ptr 1543 0]⟩),
  (1545, ⟨41, false, false, [.int .i64 (.c 1), .int .i64 (.c 0), .int .i64 (.c 0), .cplx .f64 0 0, .str [], .int .i64 (.c 0), .int .i64 (.c 0), .nilslice, .nilslice, .nilslice, .int .i64 (.c 0)]⟩),
  (1169, ⟨73, true, true, [.str [102], .int .i64 (.c 1), .int .i64 (.c 1), .slice 1156 0 11 (.opn 0)]⟩),
  (1541, ⟨185, true, true, [.int .i64 (.c 0), .int .i64 (.c 0), .slice 1539 0 1 (.opn 0), .int .i64 (.c 0)]⟩),
  (1537, ⟨38, true, true, [.int .i64 (.c 3), .int .i64 (.l 0 [(0, 1)]), .cplx .f64 0 0, .str [], .int .i64 (.c 0), .int .i64 (.c 0), .nilslice]⟩),
  (1543, ⟨122, false, true, [.slice 1542 0 0 (.exact 0), .nilslice, .nilslice]⟩),
  (1156, ⟨82, true, true, [.int .i64 (.c 4), .int .i64 (.c 0), .int .i64 (.c 0), .int .i64 (.c 0), .int .i64 (.c 0), .cplx .f64 0 0, .str [], .int .i64 (.c 0), .int .i64 (.c 0), .nilslice, .nilslice, .int .i64 (.c 1), .int .i64 (.c 0), .int .i64 (.c 0), .int .i64 (.c 3), .int .i64 (.c 0), .cplx .f64 0 0, .str [], .int .i64 (.c 0), .int .i64 (.c 0), .nilslice, .nilslice, .int .i64 (.c 14), .int .i64 (.c 0), .int .i64 (.c 0), .int .i64 (.c 0), .int .i64 (.c 0), .cplx .f64 0 0, .str [], .int .i64 (.c 0), .int .i64 (.c 0), .nilslice, .nilslice, .int .i64 (.c 26), .int .i64 (.c 9), .int .i64 (.c 0), .int .i64 (.c 0), .int .i64 (.c 0), .cplx .f64 0 0, .str [], .int .i64 (.c 0), .int .i64 (.c 0), .nilslice, .nilslice, .int .i64 (.c 4), .int .i64 (.c 0), .int .i64 (.c 0), .int .i64 (.c 0), .int .i64 (.c 0), .cplx .f64 0 0, .str [], .int .i64 (.c 0), .int .i64 (.c 0), .nilslice, .nilslice, .int .i64 (.c 1), .int .i64 (.c 0), .int .i64 (.c 0), .int .i64 (.c 3), .int .i64 (.c 1), .cplx .f64 0 0, .str [], .int .i64 (.c 0), .int .i64 (.c 0), .nilslice, .nilslice, .int .i64 (.c 7), .int .i64 (.c 0), .int .i64 (.c 0), .int .i64 (.c 0), .int .i64 (.c 0), .cplx .f64 0 0, .str [], .int .i64 (.c 0), .int .i64 (.c 0), .nilslice, .nilslice, .int .i64 (.c 5), .int .i64 (.c 0), .int .i64 (.c 0), .int .i64 (.c 0), .int .i64 (.c 0), .cplx .f64 0 0, .str [], .int .i64 (.c 0), .int .i64 (.c 0), .nilslice, .nilslice, .int .i64 (.c 25), .int .i64 (.c 0), .int .i64 (.c 0), .int .i64 (.c 0), .int .i64 (.c 0), .cplx .f64 0 0, .str [], .int .i64 (.c 0), .int .i64 (.c 0), .nilslice, .nilslice, .int .i64 (.c 1), .int .i64 (.c 0), .int .i64 (.c 0), .int .i64 (.c 5), .int .i64 (.c 0), .cplx .f64 0 0, .str [100, 111, 110, 101], .int .i64 (.c 0), .int .i64 (.c 0), .nilslice, .nilslice, .int .i64 (.c 29), .int .i64 (.c 0), .int .i64 (.c 0), .int .i64 (.c 0), .int .i64 (.c 0), .cplx .f64 0 0, .str [], .int .i64 (.c 0), .int .i64 (.c 0), .nilslice, .nilslice]⟩),
  (1539, ⟨38, true, true, [.int .i64 (.c 3), .int .i64 (.l 0 [(0, 1)]), .cplx .f64 0 0, .str [], .int .i64 (.c 0), .int .i64 (.c 0), .nilslice]⟩),
  (1542, ⟨38, false, true, []⟩)]
  c0 := 1546

noncomputable def A3 : Tm where
  tin := [(4, .one (.sc (.int .i64 (.c 400)))),
  (5, .one (.sc (.ptr 1348 0))),
  (10, .one (.sc (.ptr 1349 0))),
  (13, .one (.sc (.ptr 1527 0))),
  (17, .one (.sc (.ptr 1544 0))),
  (18, .one (.sc (.ptr 1545 0))),
  (20, .one (.sc (.func 35 [(1544, 0)]))),
  (19, .one (.sc (.int .i64 (.l 0 [(2, 1)])))),
  (21, .one (.sc (.int .i64 (.l 0 [(1, 1)]))))]
  hin := [(1348, ⟨25, false, true, [.str [112], .slice 1169 0 1 (.opn 0)]⟩),
  (1349, ⟨41, false, true, [.int .i64 (.c 0), .int .i64 (.c 0), .int .i64 (.c 0), .cplx .f64 0 0, .str [], .int .i64 (.c 0), .int .i64 (.c 0), .nilslice, .nilslice, .nilslice, .int .i64 (.c 0)]⟩),
  (1527, ⟨180, false, false, [.bool true, .slice 4913 0 1 (.opn 0), .slice 4996 0 1 (.opn 0)]⟩),
  (1544, ⟨120, false, true, [.ptr 1543 0]⟩),
  (1545, ⟨41, false, false, [.int .i64 (.c 1), .int .i64 (.c 0), .int .i64 (.c 0), .cplx .f64 0 0, .str [], .int .i64 (.c 0), .int .i64 (.c 0), .nilslice, .nilslice, .nilslice, .int .i64 (.c 0)]⟩),
  (1169, ⟨73, true, true, [.str [102], .int .i64 (.c 1), .int .i64 (.c 1), .slice 1156 0 11 (.opn 0)]⟩),
  (4913, ⟨185, true, true, [.int .i64 (.c 0), .int .i64 (.c 3), .slice 4911 0 1 (.opn 0), .int .i64 (.c 0)]⟩),
  (4996, ⟨38, true, true, [.int .i64 (.c 2), .int .i64 (.c 0), .cplx .f64 0 0, .str [], .int .i64 (.c 0), .int .i64 (.c 0), .nilslice]⟩),
  (1543, ⟨122, false, true, [.slice 1542 0 0 (.exact 0), .nilslice, .nilslice]⟩),
  (1156, ⟨82, true, true, [.int .i64 (.c 4), .int .i64 (.c 0), .int .i64 (.c 0), .int .i64 (.c 0), .int .i64 (.c 0), .cplx .f64 0 0, .str [], .int .i64 (.c 0), .int .i64 (.c 0), .nilslice, .nilslice, .int .i64 (.c 1), .int .i64 (.c 0), .int .i64 (.c 0), .int .i64 (.c 3), .int .i64 (.c 0), .cplx .f64 0 0, .str [], .int .i64 (.c 0), .int .i64 (.c 0), .nilslice, .nilslice, .int .i64 (.c 14), .int .i64 (.c 0), .int .i64 (.c 0), .int .i64 (.c 0), .int .i64 (.c 0), .cplx .f64 0 0, .str [], .int .i64 (.c 0), .int .i64 (.c 0), .nilslice, .nilslice, .int .i64 (.c 26), .int .i64 (.c 9), .int .i64 (.c 0), .int .i64 (.c 0), .int .i64 (.c 0), .cplx .f64 0 0, .str [], .int .i64 (.c 0), .int .i64 (.c 0), .nilslice, .nilslice, .int .i64 (.c 4), .int .i64 (.c 0), .int .i64 (.c 0), .int .i64 (.c 0), .int .i64 (.c 0), .cplx .f64 0 0, .str [], .int .i64 (.c 0), .int .i64 (.c 0), .nilslice, .nilslice, .int .i64 (.c 1), .int .i64 (.c 0), .int .i64 (.c 0), .int .i64 (.c 3), .int .i64 (.c 1), .cplx .f64 0 0, .str [], .int .i64 (.c 0), .int .i64 (.c 0), .nilslice, .nilslice, .int .i64 (.c 7), .int .i64 (.c 0), .int .i64 (.c 0), .int .i64 (.c 0), .int .i64 (.c 0), .cplx .f64 0 0, .str [], .int .i64 (.c 0), .int .i64 (.c 0), .nilslice, .nilslice, .int .i64 (.c 5), .int .i64 (.c 0), .int .i64 (.c 0), .int .i64 (.c 0), .int .i64 (.c 0), .cplx .f64 0 0, .str [], .int .i64 (.c 0), .int .i64 (.c 0), .nilslice, .nilslice, .int .i64 (.c 25), .int .i64 (.c 0), .int .i64 (.c 0), .int .i64 (.c 0), .int .i64 (.c 0), .cplx .f64 0 0, .str [], .int .i64 (.c 0), .int .i64 (.c 0), .nilslice, .nilslice, .int .i64 (.c 1), .int .i64 (.c 0), .int .i64 (.c 0), .int .i64 (.c 5), .int .i64 (.c 0), .cplx .f64 0 0, .str [100, 111, 110, 101], .int .i64 (.c 0), .int .i64 (.c 0), .nilslice, .nilslice, .int .i64 (.c 29), .int .i64 (.c 0), .int .i64 (.c 0), .int .i64 (.c 0), .int .i64 (.c 0), .cplx .f64 0 0, .str [], .int .i64 (.c 0), .int .i64 (.c 0), .nilslice, .nilslice]⟩),
  (4911, ⟨38, true, true, [.int .i64 (.c 3), .int .i64 (.l 0 [(0, 1)]), .cplx .f64 0 0, .str [], .int .i64 (.c 0), .int .i64 (.c 0), .nilslice]⟩),
  (1542, ⟨38, false, true, []⟩)]
  c0 := 5000

noncomputable def A6 : Tm where
  tin := [(4, .one (.sc (.int .i64 (.c 400)))),
  (5, .one (.sc (.ptr 1348 0))),
  (10, .one (.sc (.ptr 1349 0))),
  (13, .one (.sc (.ptr 1527 0))),
  (17, .one (.sc (.ptr 1544 0))),
  (18, .one (.sc (.ptr 1545 0))),
  (20, .one (.sc (.func 35 [(1544, 0)]))),
  (19, .one (.sc (.int .i64 (.l 0 [(2, 1)])))),
  (21, .one (.sc (.int .i64 (.l 0 [(1, 1)]))))]
  hin := [(1348, ⟨25, false, true, [.str [112], .slice 1169 0 1 (.opn 0)]⟩),
  (1349, ⟨41, false, true, [.int .i64 (.c 0), .int .i64 (.c 0), .int .i64 (.c 0), .cplx .f64 0 0, .str [], .int .i64 (.c 0), .int .i64 (.c 0), .nilslice, .nilslice, .nilslice, .int .i64 (.c 0)]⟩),
  (1527, ⟨180, false, false, [.bool true, .slice 8374 0 1 (.opn 0), .slice 8399 0 2 (.opn 0)]⟩),
  (1544, ⟨120, false, true, [.ptr 1543 0]⟩),
  (1545, ⟨41, false, false, [.int .i64 (.c 1), .int .i64 (.c 0), .int .i64 (.c 0), .cplx .f64 0 0, .str [], .int .i64 (.c 0), .int .i64 (.c 0), .nilslice, .nilslice, .nilslice, .int .i64 (.c 0)]⟩),
  (1169, ⟨73, true, true, [.str [102], .int .i64 (.c 1), .int .i64 (.c 1), .slice 1156 0 11 (.opn 0)]⟩),
  (8374, ⟨185, true, true, [.int .i64 (.c 0), .int .i64 (.c 6), .slice 8372 0 1 (.opn 0), .int .i64 (.c 0)]⟩),
  (8399, ⟨38, true, true, [.int .i64 (.c 3), .int .i64 (.l 0 [(0, 1)]), .cplx .f64 0 0, .str [], .int .i64 (.c 0), .int .i64 (.c 0), .nilslice, .int .i64 (.c 3), .int .i64 (.c 1), .cplx .f64 0 0, .str [], .int .i64 (.c 0), .int .i64 (.c 0), .nilslice]⟩),
  (1543, ⟨122, false, true, [.slice 1542 0 0 (.exact 0), .nilslice, .nilslice]⟩),
  (1156, ⟨82, true, true, [.int .i64 (.c 4), .int .i64 (.c 0), .int .i64 (.c 0), .int .i64 (.c 0), .int .i64 (.c 0), .cplx .f64 0 0, .str [], .int .i64 (.c 0), .int .i64 (.c 0), .nilslice, .nilslice, .int .i64 (.c 1), .int .i64 (.c 0), .int .i64 (.c 0), .int .i64 (.c 3), .int .i64 (.c 0), .cplx .f64 0 0, .str [], .int .i64 (.c 0), .int .i64 (.c 0), .nilslice, .nilslice, .int .i64 (.c 14), .int .i64 (.c 0), .int .i64 (.c 0), .int .i64 (.c 0), .int .i64 (.c 0), .cplx .f64 0 0, .str [], .int .i64 (.c 0), .int .i64 (.c 0), .nilslice, .nilslice, .int .i64 (.c 26), .int .i64 (.c 9), .int .i64 (.c 0), .int .i64 (.c 0), .int .i64 (.c 0), .cplx .f64 0 0, .str [], .int .i64 (.c 0), .int .i64 (.c 0), .nilslice, .nilslice, .int .i64 (.c 4), .int .i64 (.c 0), .int .i64 (.c 0), .int .i64 (.c 0), .int .i64 (.c 0), .cplx .f64 0 0, .str [], .int .i64 (.c 0), .int .i64 (.c 0), .nilslice, .nilslice, .int .i64 (.c 1), .int .i64 (.c 0), .int .i64 (.c 0), .int .i64 (.c 3), .int .i64 (.c 1), .cplx .f64 0 0, .str [], .int .i64 (.c 0), .int .i64 (.c 0), .nilslice, .nilslice, .int .i64 (.c 7), .int .i64 (.c 0), .int .i64 (.c 0), .int .i64 (.c 0), .int .i64 (.c 0), .cplx .f64 0 0, .str [], .int .i64 (.c 0), .int .i64 (.c 0), .nilslice, .nilslice, .int .i64 (.c 5), .int .i64 (.c 0), .int .i64 (.c 0), .int .i64 (.c 0), .int .i64 (.c 0), .cplx .f64 0 0, .str [], .int .i64 (.c 0), .int .i64 (.c 0), .nilslice, .nilslice, .int .i64 (.c 25), .int .i64 (.c 0), .int .i64 (.c 0), .int .i64 (.c 0), .int .i64 (.c 0), .cplx .f64 0 0, .str [], .int .i64 (.c 0), .int .i64 (.c 0), .nilslice, .nilslice, .int .i64 (.c 1), .int .i64 (.c 0), .int .i64 (.c 0), .int .i64 (.c 5), .int .i64 (.c 0), .cplx .f64 0 0, .str [100, 111, 110, 101], .int .i64 (.c 0), .int .i64 (.c 0), .nilslice, .nilslice, .int .i64 (.c 29), .int .i64 (.c 0), .int .i64 (.c 0), .int .i64 (.c 0), .int .i64 (.c 0), .cplx .f64 0 0, .str [], .int .i64 (.c 0), .int .i64 (.c 0), .nilslice, .nilslice]⟩),
  (8372, ⟨38, true, true, [.int .i64 (.c 3), .int .i64 (.l 0 [(0, 1)]), .cplx .f64 0 0, .str [], .int .i64 (.c 0), .int .i64 (.c 0), .nilslice]⟩),
  (1542, ⟨38, false, true, []⟩)]
  c0 := 8403

noncomputable def A0 : Tm where
  tin := [(4, .one (.sc (.int .i64 (.c 400)))),
  (5, .one (.sc (.ptr 1348 0))),
  (10, .one (.sc (.ptr 1349 0))),
  (13, .one (.sc (.ptr 1527 0))),
  (17, .one (.sc (.ptr 1544 0))),
  (18, .one (.sc (.ptr 1545 0))),
  (20, .one (.sc (.func 35 [(1544, 0)]))),
  (19, .one (.sc (.int .i64 (.l 0 [(2, 1)])))),
  (21, .one (.sc (.int .i64 (.l 0 [(1, 1)]))))]
  hin := [(1348, ⟨25, false, true, [.str [112], .slice 1169 0 1 (.opn 0)]⟩),
  (1349, ⟨41, false, true, [.int .i64 (.c 0), .int .i64 (.c 0), .int .i64 (.c 0), .cplx .f64 0 0, .str [], .int .i64 (.c 0), .int .i64 (.c 0), .nilslice, .nilslice, .nilslice, .int .i64 (.c 0)]⟩),
  (1527, ⟨180, false, false, [.bool true, .slice 11833 0 1 (.opn 0), .slice 11827 0 0 (.exact 0)]⟩),
  (1544, ⟨120, false, true, [.ptr 1543 0]⟩),
  (1545, ⟨41, false, false, [.int .i64 (.c 1), .int .i64 (.c 0), .int .i64 (.c 0), .cplx .f64 0 0, .str [], .int .i64 (.c 0), .int .i64 (.c 0), .nilslice, .nilslice, .nilslice, .int .i64 (.c 0)]⟩),
  (1169, ⟨73, true, true, [.str [102], .int .i64 (.c 1), .int .i64 (.c 1), .slice 1156 0 11 (.opn 0)]⟩),
  (11833, ⟨185, true, true, [.int .i64 (.c 0), .int .i64 (.c 0), .slice 11831 0 1 (.opn 0), .int .i64 (.c 0)]⟩),
  (11827, ⟨38, false, true, []⟩),
  (1543, ⟨122, false, true, [.slice 1542 0 0 (.exact 0), .nilslice, .nilslice]⟩),
  (1156, ⟨82, true, true, [.int .i64 (.c 4), .int .i64 (.c 0), .int .i64 (.c 0), .int .i64 (.c 0), .int .i64 (.c 0), .cplx .f64 0 0, .str [], .int .i64 (.c 0), .int .i64 (.c 0), .nilslice, .nilslice, .int .i64 (.c 1), .int .i64 (.c 0), .int .i64 (.c 0), .int .i64 (.c 3), .int .i64 (.c 0), .cplx .f64 0 0, .str [], .int .i64 (.c 0), .int .i64 (.c 0), .nilslice, .nilslice, .int .i64 (.c 14), .int .i64 (.c 0), .int .i64 (.c 0), .int .i64 (.c 0), .int .i64 (.c 0), .cplx .f64 0 0, .str [], .int .i64 (.c 0), .int .i64 (.c 0), .nilslice, .nilslice, .int .i64 (.c 26), .int .i64 (.c 9), .int .i64 (.c 0), .int .i64 (.c 0), .int .i64 (.c 0), .cplx .f64 0 0, .str [], .int .i64 (.c 0), .int .i64 (.c 0), .nilslice, .nilslice, .int .i64 (.c 4), .int .i64 (.c 0), .int .i64 (.c 0), .int .i64 (.c 0), .int .i64 (.c 0), .cplx .f64 0 0, .str [], .int .i64 (.c 0), .int .i64 (.c 0), .nilslice, .nilslice, .int .i64 (.c 1), .int .i64 (.c 0), .int .i64 (.c 0), .int .i64 (.c 3), .int .i64 (.c 1), .cplx .f64 0 0, .str [], .int .i64 (.c 0), .int .i64 (.c 0), .nilslice, .nilslice, .int .i64 (.c 7), .int .i64 (.c 0), .int .i64 (.c 0), .int .i64 (.c 0), .int .i64 (.c 0), .cplx .f64 0 0, .str [], .int .i64 (.c 0), .int .i64 (.c 0), .nilslice, .nilslice, .int .i64 (.c 5), .int .i64 (.c 0), .int .i64 (.c 0), .int .i64 (.c 0), .int .i64 (.c 0), .cplx .f64 0 0, .str [], .int .i64 (.c 0), .int .i64 (.c 0), .nilslice, .nilslice, .int .i64 (.c 25), .int .i64 (.c 0), .int .i64 (.c 0), .int .i64 (.c 0), .int .i64 (.c 0), .cplx .f64 0 0, .str [], .int .i64 (.c 0), .int .i64 (.c 0), .nilslice, .nilslice, .int .i64 (.c 1), .int .i64 (.c 0), .int .i64 (.c 0), .int .i64 (.c 5), .int .i64 (.c 0), .cplx .f64 0 0, .str [100, 111, 110, 101], .int .i64 (.c 0), .int .i64 (.c 0), .nilslice, .nilslice, .int .i64 (.c 29), .int .i64 (.c 0), .int .i64 (.c 0), .int .i64 (.c 0), .int .i64 (.c 0), .cplx .f64 0 0, .str [], .int .i64 (.c 0), .int .i64 (.c 0), .nilslice, .nilslice]⟩),
  (11831, ⟨38, true, true, [.int .i64 (.c 3), .int .i64 (.l 0 [(0, 1)]), .cplx .f64 0 0, .str [], .int .i64 (.c 0), .int .i64 (.c 0), .nilslice]⟩),
  (1542, ⟨38, false, true, []⟩)]
  c0 := 11859

noncomputable def FE : Tm where
  tin := [(10, .one (.sc (.ptr 1349 0))),
  (17, .one (.sc (.ptr 1544 0))),
  (18, .one (.sc (.ptr 1545 0)))]
  hin := [(1545, ⟨41, false, false, [.int .i64 (.c 3), .int .i64 (.c 5), .int .i64 (.c 0), .cplx .f64 0 0, .str [100, 111, 110, 101], .int .i64 (.c 0), .int .i64 (.c 0), .nilslice, .nilslice, .nilslice, .int .i64 (.c 0)]⟩)]
  c0 := 0

/-- the state behind the loop: the unknown 3 is the count of all steps -/
noncomputable def endT : Tm := ⟨(19, .one (.sc (.int .i64 (.l 0 [(3, 1)])))) :: FE.tin, FE.hin, 0⟩
def id3 : Th := [(3, .l 0 [(3, 1)])]
def thR (d : Int) : Th := [(0, .l d [(0, 1)]), (1, .l 1 [(1, 1)]), (2, .l 57 [(2, 1)]), (3, .l 0 [(3, 1)])]
def bR : Bnds := [(7, 999), (0, 200), (0, 20000), (0, 40000)]
def bE (k : Int) : Bnds := [(k, k), (0, 200), (0, 20000), (0, 40000)]
noncomputable def XR (B : Bnds) : Ctx := ⟨Tryz.prog, 5, B⟩
noncomputable def callR (B : Bnds) : CallF := evalM (XR B) dos 200
theorem callR_ok (B : Bnds) : CallOk (XR B) (callR B) := evalM_ok (X := XR B) hnum hmix dos_ok 200
end Go.Proofs.YtnnilbambpfhiaaGreatDoor.Ev
