/- A piece of knows' run. Printed by fcap.py. -/
import Derived.Test.YtcllmbmgchhigaaGreatXV
import Derived.Test.YtcllmbmgchhigaaGreatProg
import Derived.KernelRfl
namespace Go.Proofs.YtcllmbmgchhigaaGreat
open Go.RowKit
noncomputable section
def litAsk0 : Lit := ⟨16, [.pointer (some ⟨9, 0, none⟩), .int .i64 2, .agg #[.int .i64 1, .int .i64 0], .string ⟨#[107]⟩, .string ⟨#[118]⟩], ⟨452, ofL [(7, .chan 4096 []),
  (9, .row [.int .i64 2, .int .i64 2, .int .i64 2, .int .i64 9, .int .i64 3, .int .i64 2, .pointer (some ⟨20, 0, none⟩), .pointer (some ⟨105, 0, none⟩), .pointer (some ⟨116, 0, none⟩), .pointer (some ⟨13, 0, none⟩), .pointer (some ⟨122, 0, none⟩), .float .f32 8, .int .i64 1, .int .i64 0, .int .i64 0, .int .i64 0, .int .i64 0, .bool false, .bool false, .bool false, .bool false, .int .i64 0, .int .i64 0, .int .i64 0, .int .i64 0, .int .i64 0, .int .i64 0, .int .i64 0, .int .i64 0, .int .i64 0, .int .i64 0, .int .i64 0, .int .i64 0, .slice none 0 0, .slice none 0 0] 105 (some 35)),
  (11, .chan 32 []),
  (12, .map [] 0),
  (13, .row [.float .f32 12, .map (some 12)] 158 (some 2)),
  (18, .map [⟨.agg #[.int .i64 0, .int .i64 0], .pointer (some ⟨58, 0, none⟩), 1⟩] 2),
  (19, .map [] 0),
  (20, .row [.int .i64 2, .int .i64 1, .bool false, .bool false, .bool false, .bool false, .bool false, .bool false, .bool false, .bool false, .map (some 18), .map (some 19), .bool true] 164 (some 13)),
  (54, .row [.int .i64 0, .int .i64 0, .int .i64 4, .int .i64 4, .slice none 0 0, .pointer none, .pointer none, .pointer none, .pointer none, .bool false, .int .i64 0] 498 (some 11)),
  (55, .row [.int .i64 2, .int .i64 0, .int .i64 0, .pointer (some ⟨54, 0, none⟩)] 401 (some 4)),
  (56, .row [.int .i64 0, .bool false, .string ⟨#[]⟩, .int .i64 0, .int .i64 0, .int .i64 0, .bool false, .string ⟨#[]⟩, .int .i64 0, .int .i64 0, .int .i64 0, .bool false, .string ⟨#[]⟩, .int .i64 0, .int .i64 0, .int .i64 0, .bool false, .string ⟨#[]⟩, .int .i64 0, .int .i64 0, .int .i64 0, .bool false, .string ⟨#[]⟩, .int .i64 0, .int .i64 0, .int .i64 0, .bool false, .string ⟨#[]⟩, .int .i64 0, .int .i64 0, .int .i64 0, .bool false, .string ⟨#[]⟩, .int .i64 0, .int .i64 0, .int .i64 0, .bool false, .string ⟨#[]⟩, .int .i64 0, .int .i64 0, .bool true] 505 (some 41)),
  (57, .row [.pointer (some ⟨55, 0, none⟩), .int .i64 2, .pointer (some ⟨56, 0, none⟩)] 274 (some 3)),
  (58, .row [.int .i64 0, .int .i64 0, .int .i64 0, .int .i64 0, .int .i64 1, .int .i64 1, .int .i64 1, .int .i64 0, .int .i64 (-1), .int .i64 0, .slice none 0 0, .int .i64 0, .int .i64 0, .int .i64 0, .int .i64 0, .string ⟨#[]⟩, .string ⟨#[]⟩, .int .i64 0, .int .i64 0, .int .i64 0, .int .i64 0, .int .i64 0, .slice none 0 0, .bool true, .bool false, .bool false, .bool false, .bool false, .bool false, .bool false, .bool false, .bool false, .bool false, .bool false, .bool false, .bool false, .bool false, .bool false, .bool false, .bool false, .bool false, .bool false, .bool false, .bool false, .bool false, .bool false, .bool false, .bool false, .bool false, .bool false, .int .i64 0, .int .i64 0, .int .i64 0, .int .i64 0, .int .i64 0, .int .i64 0, .int .i64 0, .int .i64 0, .int .i64 2, .pointer (some ⟨57, 0, none⟩)] 282 (some 60)),
  (104, .map [⟨.agg #[.int .i64 0, .int .i64 0], .agg #[.int .i64 0, .int .i64 0, .int .i64 1, .int .i64 1, .slice none 0 0], 0⟩] 1),
  (105, .row [.int .i64 2, .map (some 104)] 171 (some 2)),
  (116, .row [.int .i64 2, .int .i64 1, .int .i64 2, .int .i64 9, .int .i64 0, .int .i64 0, .pointer (some ⟨121, 0, none⟩), .pointer none, .pointer none] 177 (some 9)),
  (119, .map [] 0),
  (120, .row [.slice none 0 0, .map (some 119)] 287 (some 2)),
  (121, .row [.int .i64 0, .pointer (some ⟨120, 0, none⟩)] 289 (some 2)),
  (122, .row [.int .i64 3, .bool false, .bool false, .bool false, .bool false, .bool false, .bool false, .bool false, .bool false, .bool false, .int .i64 0, .bool false, .bool false, .bool false, .bool false, .bool false, .bool false, .bool false, .bool false, .bool false, .int .i64 0, .bool false, .bool false, .bool false, .bool false, .bool false, .bool false, .bool false, .bool false, .bool false, .int .i64 0, .bool false, .bool false, .bool false, .bool false, .bool false, .bool false, .bool false, .bool false, .bool false, .int .i64 0, .bool false, .bool false, .bool false, .bool false, .bool false, .bool false, .bool false, .bool false, .bool false, .int .i64 0, .bool false, .bool false, .bool false, .bool false, .bool false, .bool false, .bool false, .bool false, .bool false, .int .i64 0, .bool false, .bool false, .bool false, .bool false, .bool false, .bool false, .bool false, .bool false, .bool false, .int .i64 0, .bool false, .bool false, .bool false, .bool false, .bool false, .bool false, .bool false, .bool false, .bool false, .int .i64 0] 182 (some 81))]⟩, .tuple #[.int .i64 1, .int .i64 0], ⟨2466, ofL [(7, .chan 4096 []),
  (9, .row [.int .i64 2, .int .i64 2, .int .i64 2, .int .i64 9, .int .i64 3, .int .i64 2, .pointer (some ⟨20, 0, none⟩), .pointer (some ⟨105, 0, none⟩), .pointer (some ⟨116, 0, none⟩), .pointer (some ⟨13, 0, none⟩), .pointer (some ⟨122, 0, none⟩), .float .f32 8, .int .i64 1, .int .i64 0, .int .i64 0, .int .i64 0, .int .i64 0, .bool false, .bool false, .bool false, .bool false, .int .i64 0, .int .i64 0, .int .i64 0, .int .i64 0, .int .i64 0, .int .i64 0, .int .i64 0, .int .i64 0, .int .i64 0, .int .i64 0, .int .i64 0, .int .i64 1, .slice (some ⟨2465, 0, none⟩) 1 18446744073709551616, .slice none 0 0] 105 (some 35)),
  (11, .chan 32 []),
  (12, .map [] 0),
  (13, .row [.float .f32 12, .map (some 12)] 158 (some 2)),
  (18, .map [⟨.agg #[.int .i64 0, .int .i64 0], .pointer (some ⟨58, 0, none⟩), 2⟩] 3),
  (19, .map [] 0),
  (20, .row [.int .i64 2, .int .i64 1, .bool false, .bool false, .bool false, .bool false, .bool false, .bool false, .bool false, .bool false, .map (some 18), .map (some 19), .bool true] 164 (some 13)),
  (54, .row [.int .i64 0, .int .i64 0, .int .i64 4, .int .i64 4, .slice (some ⟨2038, 0, none⟩) 1 18446744073709551616, .pointer none, .pointer none, .pointer none, .pointer none, .bool false, .int .i64 1] 498 (some 11)),
  (55, .row [.int .i64 2, .int .i64 0, .int .i64 0, .pointer (some ⟨54, 0, none⟩)] 401 (some 4)),
  (56, .row [.int .i64 0, .bool false, .string ⟨#[]⟩, .int .i64 0, .int .i64 0, .int .i64 0, .bool false, .string ⟨#[]⟩, .int .i64 0, .int .i64 1, .int .i64 0, .bool false, .string ⟨#[]⟩, .int .i64 0, .int .i64 0, .int .i64 0, .bool false, .string ⟨#[]⟩, .int .i64 0, .int .i64 0, .int .i64 0, .bool false, .string ⟨#[]⟩, .int .i64 0, .int .i64 0, .int .i64 0, .bool false, .string ⟨#[]⟩, .int .i64 0, .int .i64 0, .int .i64 0, .bool false, .string ⟨#[]⟩, .int .i64 0, .int .i64 0, .int .i64 0, .bool false, .string ⟨#[]⟩, .int .i64 0, .int .i64 0, .bool true] 505 (some 41)),
  (57, .row [.pointer (some ⟨55, 0, none⟩), .int .i64 2, .pointer (some ⟨56, 0, none⟩)] 274 (some 3)),
  (58, .row [.int .i64 0, .int .i64 0, .int .i64 0, .int .i64 0, .int .i64 1, .int .i64 1, .int .i64 1, .int .i64 1, .int .i64 (-1), .int .i64 0, .slice none 0 0, .int .i64 0, .int .i64 0, .int .i64 0, .int .i64 0, .string ⟨#[]⟩, .string ⟨#[]⟩, .int .i64 0, .int .i64 0, .int .i64 0, .int .i64 0, .int .i64 0, .slice none 0 0, .bool true, .bool false, .bool false, .bool false, .bool false, .bool false, .bool false, .bool false, .bool false, .bool false, .bool false, .bool false, .bool false, .bool false, .bool false, .bool false, .bool false, .bool false, .bool false, .bool false, .bool false, .bool false, .bool false, .bool false, .bool false, .bool false, .bool false, .int .i64 0, .int .i64 0, .int .i64 0, .int .i64 0, .int .i64 0, .int .i64 0, .int .i64 0, .int .i64 0, .int .i64 2, .pointer (some ⟨57, 0, none⟩)] 282 (some 60)),
  (104, .map [⟨.agg #[.int .i64 0, .int .i64 0], .agg #[.int .i64 0, .int .i64 0, .int .i64 1, .int .i64 1, .slice none 0 0], 0⟩] 1),
  (105, .row [.int .i64 2, .map (some 104)] 171 (some 2)),
  (116, .row [.int .i64 2, .int .i64 1, .int .i64 2, .int .i64 9, .int .i64 0, .int .i64 1, .pointer (some ⟨121, 0, none⟩), .pointer none, .pointer (some ⟨2193, 0, none⟩)] 177 (some 9)),
  (119, .map [] 2),
  (120, .row [.slice (some ⟨674, 0, none⟩) 0 18446744073709551616, .map (some 119)] 287 (some 2)),
  (121, .row [.int .i64 0, .pointer (some ⟨120, 0, none⟩)] 289 (some 2)),
  (122, .row [.int .i64 3, .bool false, .bool false, .bool false, .bool false, .bool false, .bool false, .bool false, .bool false, .bool false, .int .i64 0, .bool false, .bool false, .bool false, .bool false, .bool false, .bool false, .bool false, .bool false, .bool false, .int .i64 0, .bool false, .bool false, .bool false, .bool false, .bool false, .bool false, .bool false, .bool false, .bool false, .int .i64 0, .bool false, .bool false, .bool false, .bool false, .bool false, .bool false, .bool false, .bool false, .bool false, .int .i64 0, .bool false, .bool false, .bool false, .bool false, .bool false, .bool false, .bool false, .bool false, .bool false, .int .i64 0, .bool false, .bool false, .bool false, .bool false, .bool false, .bool false, .bool false, .bool false, .bool false, .int .i64 0, .bool false, .bool false, .bool false, .bool false, .bool false, .bool false, .bool false, .bool false, .bool false, .int .i64 0, .bool false, .bool false, .bool false, .bool false, .bool false, .bool false, .bool false, .bool false, .bool false, .int .i64 0] 182 (some 81)),
  (674, .row [.int .i64 9, .int .i64 2, .int .i64 0, .int .i64 2, .int .i64 1, .int .i64 0] 205 none),
  (2038, .row [.int .i64 1, .int .i64 0, .string ⟨#[107]⟩, .string ⟨#[118]⟩, .int .i64 1] 131 none),
  (2193, .row [.int .i64 1, .bool false, .int .i64 2, .int .i64 1, .int .i64 0, .string ⟨#[107]⟩, .string ⟨#[118]⟩, .int .i64 1, .int .i64 1, .int .i64 0, .int .i64 0, .int .i64 0, .int .i64 0, .int .i64 0, .int .i64 0, .bool false, .string ⟨#[]⟩, .int .i64 0, .slice none 0 0] 82 (some 19)),
  (2465, .row [.int .i64 1, .bool false, .int .i64 2, .int .i64 1, .int .i64 0, .string ⟨#[107]⟩, .string ⟨#[118]⟩, .int .i64 1, .int .i64 1, .int .i64 0, .int .i64 0, .int .i64 0, .int .i64 0, .int .i64 0, .int .i64 0, .bool false, .string ⟨#[]⟩, .int .i64 0, .slice none 0 0] 82 none)]⟩⟩
theorem litAsk0_ok : litOK litAsk0 (funcD noOv Tryz.prog 100000 60 (.func litAsk0.f) litAsk0.args litAsk0.s) = true := by kernel_rfl
end
end Go.Proofs.YtcllmbmgchhigaaGreat
