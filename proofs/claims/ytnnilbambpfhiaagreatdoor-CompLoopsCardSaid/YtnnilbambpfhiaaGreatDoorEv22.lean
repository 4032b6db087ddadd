/-
  Calls that are known: the words of the language, and whether a name is one of them.
-/
import Derived.Test.YtnnilbambpfhiaaGreatDoorEv21
namespace Go.Proofs.YtnnilbambpfhiaaGreatDoor.Ev
open Go
set_option maxRecDepth 100000

noncomputable def words : Memo where
  B := []
  f := 76
  args := []
  hin := [(0, spR)]
  c0 := 5
  c1 := 73
  hout := [(72, ⟨135, true, false, [.str [43], .int .i64 (.c 6), .int .i64 (.c 2), .bool false, .str [45], .int .i64 (.c 7), .int .i64 (.c 2), .bool false, .str [42], .int .i64 (.c 8), .int .i64 (.c 2), .bool false, .str [47], .int .i64 (.c 9), .int .i64 (.c 2), .bool false, .str [114, 101, 109], .int .i64 (.c 10), .int .i64 (.c 2), .bool false, .str [116, 117, 114, 110], .int .i64 (.c 13), .int .i64 (.c 2), .bool false, .str [61], .int .i64 (.c 14), .int .i64 (.c 2), .bool false, .str [60], .int .i64 (.c 15), .int .i64 (.c 2), .bool false, .str [101, 108, 101, 109], .int .i64 (.c 20), .int .i64 (.c 2), .bool false, .str [99, 111, 110, 115], .int .i64 (.c 22), .int .i64 (.c 2), .bool false, .str [110, 101, 103], .int .i64 (.c 11), .int .i64 (.c 1), .bool false, .str [99, 111, 110, 106], .int .i64 (.c 12), .int .i64 (.c 1), .bool false, .str [110, 111, 116], .int .i64 (.c 16), .int .i64 (.c 1), .bool false, .str [115, 105, 122, 101], .int .i64 (.c 21), .int .i64 (.c 1), .bool false, .str [104, 101, 97, 100], .int .i64 (.c 23), .int .i64 (.c 1), .bool false, .str [116, 97, 105, 108], .int .i64 (.c 24), .int .i64 (.c 1), .bool false, .str [115, 101, 108, 102], .int .i64 (.c 30), .int .i64 (.c 0), .bool true, .str [110, 111, 119], .int .i64 (.c 31), .int .i64 (.c 0), .bool true, .str [121, 105, 101, 108, 100], .int .i64 (.c 46), .int .i64 (.c 0), .bool true, .str [99, 97, 110, 99, 101, 108], .int .i64 (.c 36), .int .i64 (.c 1), .bool true, .str [108, 105, 110, 107], .int .i64 (.c 37), .int .i64 (.c 1), .bool true, .str [117, 110, 108, 105, 110, 107], .int .i64 (.c 38), .int .i64 (.c 1), .bool true, .str [109, 111, 110, 105, 116, 111, 114], .int .i64 (.c 39), .int .i64 (.c 1), .bool true, .str [100, 101, 109, 111, 110], .int .i64 (.c 40), .int .i64 (.c 1), .bool true, .str [116, 114, 97, 112], .int .i64 (.c 41), .int .i64 (.c 1), .bool true, .str [110, 97, 109, 101], .int .i64 (.c 42), .int .i64 (.c 1), .bool true, .str [119, 104, 101, 114, 101], .int .i64 (.c 43), .int .i64 (.c 1), .bool true, .str [111, 117, 116], .int .i64 (.c 44), .int .i64 (.c 1), .bool true, .str [101, 120, 105, 116], .int .i64 (.c 45), .int .i64 (.c 1), .bool true, .str [115, 101, 110, 100], .int .i64 (.c 32), .int .i64 (.c 2), .bool true, .str [116, 105, 109, 101, 114], .int .i64 (.c 35), .int .i64 (.c 2), .bool true]⟩)]
  out := .one (.sc (.slice 72 0 31 (.opn 0)))
theorem words_ok : MemoOk Tryz.prog 5 words := Known.run (ms := []) (.nil) words (by kernel_rfl)

end Go.Proofs.YtnnilbambpfhiaaGreatDoor.Ev
