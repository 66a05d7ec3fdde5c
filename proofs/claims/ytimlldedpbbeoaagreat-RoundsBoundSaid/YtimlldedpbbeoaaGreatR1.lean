/- A piece of the run of knows. Printed by fcap.py. -/
import Derived.Test.YtimlldedpbbeoaaGreatXU
import Derived.Test.YtimlldedpbbeoaaGreatProg
import Derived.KernelRfl
namespace Go.Proofs.YtimlldedpbbeoaaGreat
open Go.RowKit
noncomputable section
def litNew : Lit := ⟨46, [.int .i64 0, .int .i64 1, .int .i64 1], ⟨0, ofL []⟩, .pointer (some ⟨3, 0, none⟩), ⟨743, ofL [(1, .row [.int .i64 1024, .int .i64 0, .slice none 0 0] 371 (some 3)),
  (3, .row [.pointer (some ⟨4, 0, none⟩), .int .i64 2, .int .i64 1, .int .i64 3, .int .i64 300, .int .i64 2, .slice (some ⟨536, 0, none⟩) 2 18446744073709551616, .pointer (some ⟨1, 0, none⟩), .pointer (some ⟨9, 0, none⟩), .pointer (some ⟨15, 0, none⟩), .int .i64 0, .int .i64 0] 66 (some 12)),
  (4, .row [.int .i64 2, .bool false, .bool false, .bool false, .bool false, .bool false, .bool false, .bool false, .bool false, .bool false, .int .i64 0, .bool false, .bool false, .bool false, .bool false, .bool false, .bool false, .bool false, .bool false, .bool false, .int .i64 0, .bool false, .bool false, .bool false, .bool false, .bool false, .bool false, .bool false, .bool false, .bool false, .int .i64 0, .bool false, .bool false, .bool false, .bool false, .bool false, .bool false, .bool false, .bool false, .bool false, .int .i64 0, .bool false, .bool false, .bool false, .bool false, .bool false, .bool false, .bool false, .bool false, .bool false, .int .i64 0, .bool false, .bool false, .bool false, .bool false, .bool false, .bool false, .bool false, .bool false, .bool false, .int .i64 0, .bool false, .bool false, .bool false, .bool false, .bool false, .bool false, .bool false, .bool false, .bool false, .int .i64 0, .bool false, .bool false, .bool false, .bool false, .bool false, .bool false, .bool false, .bool false, .bool false, .int .i64 0] 158 (some 81)),
  (9, .row [.int .i64 2, .slice none 0 0] 374 (some 2)),
  (15, .row [.int .i64 2, .map (some 733), .int .i64 1, .int .i64 0] 377 (some 4)),
  (23, .chan 4096 []),
  (25, .row [.int .i64 2, .int .i64 1, .int .i64 3, .int .i64 300, .int .i64 2, .int .i64 2, .pointer (some ⟨36, 0, none⟩), .pointer (some ⟨121, 0, none⟩), .pointer (some ⟨132, 0, none⟩), .pointer (some ⟨29, 0, none⟩), .pointer (some ⟨138, 0, none⟩), .float .f32 24, .int .i64 0, .int .i64 0, .int .i64 0, .int .i64 0, .int .i64 0, .bool false, .bool false, .bool false, .bool false, .int .i64 0, .int .i64 0, .int .i64 0, .int .i64 0, .int .i64 0, .int .i64 0, .int .i64 0, .int .i64 0, .int .i64 0, .int .i64 0, .int .i64 0, .int .i64 0, .slice none 0 0, .slice none 0 0] 80 (some 35)),
  (27, .chan 32 []),
  (28, .map [] 0),
  (29, .row [.float .f32 28, .map (some 28)] 134 (some 2)),
  (34, .map [⟨.agg #[.int .i64 0, .int .i64 0], .pointer (some ⟨74, 0, none⟩), 1⟩] 2),
  (35, .map [] 0),
  (36, .row [.int .i64 2, .int .i64 0, .bool false, .bool false, .bool false, .bool false, .bool false, .bool false, .bool false, .bool false, .map (some 34), .map (some 35), .bool true] 140 (some 13)),
  (70, .row [.int .i64 0, .int .i64 0, .int .i64 4, .int .i64 4, .slice none 0 0, .pointer none, .pointer none, .pointer none, .pointer none, .bool false, .int .i64 0] 421 (some 11)),
  (71, .row [.int .i64 2, .int .i64 0, .int .i64 0, .pointer (some ⟨70, 0, none⟩)] 423 (some 4)),
  (72, .row [.int .i64 0, .bool false, .string ⟨#[]⟩, .int .i64 0, .int .i64 0, .int .i64 0, .bool false, .string ⟨#[]⟩, .int .i64 0, .int .i64 0, .int .i64 0, .bool false, .string ⟨#[]⟩, .int .i64 0, .int .i64 0, .int .i64 0, .bool false, .string ⟨#[]⟩, .int .i64 0, .int .i64 0, .int .i64 0, .bool false, .string ⟨#[]⟩, .int .i64 0, .int .i64 0, .int .i64 0, .bool false, .string ⟨#[]⟩, .int .i64 0, .int .i64 0, .int .i64 0, .bool false, .string ⟨#[]⟩, .int .i64 0, .int .i64 0, .int .i64 0, .bool false, .string ⟨#[]⟩, .int .i64 0, .int .i64 0, .bool true] 430 (some 41)),
  (73, .row [.pointer (some ⟨71, 0, none⟩), .int .i64 2, .pointer (some ⟨72, 0, none⟩)] 318 (some 3)),
  (74, .row [.int .i64 0, .int .i64 0, .int .i64 0, .int .i64 0, .int .i64 1, .int .i64 0, .int .i64 0, .int .i64 0, .int .i64 (-1), .int .i64 0, .slice none 0 0, .int .i64 0, .int .i64 0, .int .i64 0, .int .i64 0, .string ⟨#[]⟩, .string ⟨#[]⟩, .int .i64 0, .int .i64 0, .int .i64 0, .int .i64 0, .int .i64 0, .slice none 0 0, .bool true, .bool false, .bool false, .bool false, .bool false, .bool false, .bool false, .bool false, .bool false, .bool false, .bool false, .bool false, .bool false, .bool false, .bool false, .bool false, .bool false, .bool false, .bool false, .bool false, .bool false, .bool false, .bool false, .bool false, .bool false, .bool false, .bool false, .int .i64 0, .int .i64 0, .int .i64 0, .int .i64 0, .int .i64 0, .int .i64 0, .int .i64 0, .int .i64 0, .int .i64 2, .pointer (some ⟨73, 0, none⟩)] 205 (some 60)),
  (120, .map [⟨.agg #[.int .i64 0, .int .i64 0], .agg #[.int .i64 0, .int .i64 0, .int .i64 1, .int .i64 0, .slice none 0 0], 0⟩] 1),
  (121, .row [.int .i64 2, .map (some 120)] 147 (some 2)),
  (132, .row [.int .i64 2, .int .i64 0, .int .i64 3, .int .i64 300, .int .i64 0, .int .i64 0, .pointer (some ⟨137, 0, none⟩), .pointer none, .pointer none] 153 (some 9)),
  (135, .map [] 0),
  (136, .row [.slice none 0 0, .map (some 135)] 211 (some 2)),
  (137, .row [.int .i64 0, .pointer (some ⟨136, 0, none⟩)] 213 (some 2)),
  (138, .row [.int .i64 2, .bool false, .bool false, .bool false, .bool false, .bool false, .bool false, .bool false, .bool false, .bool false, .int .i64 0, .bool false, .bool false, .bool false, .bool false, .bool false, .bool false, .bool false, .bool false, .bool false, .int .i64 0, .bool false, .bool false, .bool false, .bool false, .bool false, .bool false, .bool false, .bool false, .bool false, .int .i64 0, .bool false, .bool false, .bool false, .bool false, .bool false, .bool false, .bool false, .bool false, .bool false, .int .i64 0, .bool false, .bool false, .bool false, .bool false, .bool false, .bool false, .bool false, .bool false, .bool false, .int .i64 0, .bool false, .bool false, .bool false, .bool false, .bool false, .bool false, .bool false, .bool false, .bool false, .int .i64 0, .bool false, .bool false, .bool false, .bool false, .bool false, .bool false, .bool false, .bool false, .bool false, .int .i64 0, .bool false, .bool false, .bool false, .bool false, .bool false, .bool false, .bool false, .bool false, .bool false, .int .i64 0] 158 (some 81)),
  (477, .chan 4096 []),
  (479, .row [.int .i64 2, .int .i64 1, .int .i64 3, .int .i64 300, .int .i64 2, .int .i64 2, .pointer (some ⟨490, 0, none⟩), .pointer (some ⟨496, 0, none⟩), .pointer (some ⟨507, 0, none⟩), .pointer (some ⟨483, 0, none⟩), .pointer (some ⟨513, 0, none⟩), .float .f32 478, .int .i64 1, .int .i64 0, .int .i64 0, .int .i64 0, .int .i64 0, .bool false, .bool false, .bool false, .bool false, .int .i64 0, .int .i64 0, .int .i64 0, .int .i64 0, .int .i64 0, .int .i64 0, .int .i64 0, .int .i64 0, .int .i64 0, .int .i64 0, .int .i64 0, .int .i64 0, .slice none 0 0, .slice none 0 0] 80 (some 35)),
  (481, .chan 32 []),
  (482, .map [] 0),
  (483, .row [.float .f32 482, .map (some 482)] 134 (some 2)),
  (488, .map [] 0),
  (489, .map [] 0),
  (490, .row [.int .i64 2, .int .i64 1, .bool false, .bool false, .bool false, .bool false, .bool false, .bool false, .bool false, .bool false, .map (some 488), .map (some 489), .bool false] 140 (some 13)),
  (495, .map [] 0),
  (496, .row [.int .i64 2, .map (some 495)] 147 (some 2)),
  (507, .row [.int .i64 2, .int .i64 1, .int .i64 3, .int .i64 300, .int .i64 0, .int .i64 0, .pointer (some ⟨512, 0, none⟩), .pointer none, .pointer none] 153 (some 9)),
  (510, .map [] 0),
  (511, .row [.slice none 0 0, .map (some 510)] 211 (some 2)),
  (512, .row [.int .i64 0, .pointer (some ⟨511, 0, none⟩)] 213 (some 2)),
  (513, .row [.int .i64 2, .bool false, .bool false, .bool false, .bool false, .bool false, .bool false, .bool false, .bool false, .bool false, .int .i64 0, .bool false, .bool false, .bool false, .bool false, .bool false, .bool false, .bool false, .bool false, .bool false, .int .i64 0, .bool false, .bool false, .bool false, .bool false, .bool false, .bool false, .bool false, .bool false, .bool false, .int .i64 0, .bool false, .bool false, .bool false, .bool false, .bool false, .bool false, .bool false, .bool false, .bool false, .int .i64 0, .bool false, .bool false, .bool false, .bool false, .bool false, .bool false, .bool false, .bool false, .bool false, .int .i64 0, .bool false, .bool false, .bool false, .bool false, .bool false, .bool false, .bool false, .bool false, .bool false, .int .i64 0, .bool false, .bool false, .bool false, .bool false, .bool false, .bool false, .bool false, .bool false, .bool false, .int .i64 0, .bool false, .bool false, .bool false, .bool false, .bool false, .bool false, .bool false, .bool false, .bool false, .int .i64 0] 158 (some 81)),
  (536, .row [.pointer (some ⟨25, 0, none⟩), .pointer (some ⟨479, 0, none⟩)] 26 none),
  (733, .map [⟨.agg #[.int .i64 0, .int .i64 0, .int .i64 0], .bool true, 0⟩] 1)]⟩⟩
theorem litNew_ok : litOK litNew (funcS noOv (drawS Tryz.prog) Tryz.prog 100000 60 (.func litNew.f) litNew.args litNew.s) = true := by kernel_rfl
end
end Go.Proofs.YtimlldedpbbeoaaGreat
