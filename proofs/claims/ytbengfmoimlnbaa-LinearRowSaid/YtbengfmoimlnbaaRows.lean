/-
  No cell of these rows narrows 'for every input' (looked for: loops, veiled, ifaces, maps, wideKeys, modest, calm, conditions, laid).
  DERIVED. THE GIVEN ROWS OF THIS SEAT. 5 by the template 'for every input the law returns true; each argument reads behind the call as it read before'; 0 by the template 'total and deterministic' (their statements: YtbengfmoimlnbaaTotals.lean).
  GIVEN WITH THE SEED: the statements are not yours to turn. If you find one false, say at which input.
  Laid BY PROGRAM, IN A SANDBOX (cutbox-rows.mjs): the forced cells as the released guide's own fill.sh prints them over the translation b8610021920080fb… (all of the seat's roots in one cut). By AI agents, Wed Nov 11 2026. No macro, syntax, notation, axiom, sorry.
-/
import Derived.Test.YtbengfmoimlnbaaChecked
import GoSem.Claim
import GoSem.ClaimJoined
import GoSem.ClaimMapViews
import Derived.JoinedTies
import Derived.KernelRfl
namespace Go.Proofs.Ytbengfmoimlnbaa
/- THE CELL 'sum', in the pinned program and in every row, IS THE sha256 OF THE DUMP (.gsa) THAT YtbengfmoimlnbaaProg.lean LOADS. Nothing in Lean hashes anything: it is a label: what it is worth is what the hold of that sum in a sandbox is worth. -/
noncomputable def Try.pinned : Pinned := { name := "ytbengfmoimlnbaa", sum := "b8610021920080fb79817f423c5afb65a7eb635a9cfb10ecc3ff851f40fbec88", checked := Try.checked }
namespace Rows
def none {H : Type} : Left H := { results := [], args := [] }

/-- 'glebelaw25.LinearOrders': WHATEVER THE INPUT: true; the input reads as it did. -/
def linearOrdersSpec : ChangeSpec := { name := "linearOrders", fn := fun _ => fun
  | [d] => { results := [.lit (.bool true)], args := [d] }
  | _ => none }
def linearOrdersRow : OpenClaim := { program := "ytbengfmoimlnbaa", sum := "b8610021920080fb79817f423c5afb65a7eb635a9cfb10ecc3ff851f40fbec88", func := "glebe/glebelaw25.LinearOrders", spec := "linearOrders", unfollowed := true, recurses := true, plainKeys := false, apart := false }
def LinearOrdersSaid : Prop := linearOrdersRow.holds Try.pinned (OpenSpec.ofChange linearOrdersSpec)

/-- ITS FALSE NEIGHBOUR: 'it returns false'. Refute it at one input. -/
def linearOrdersWrong : ChangeSpec := { name := "linearOrders", fn := fun _ => fun
  | [d] => { results := [.lit (.bool false)], args := [d] }
  | _ => none }
def LinearOrdersWrongFalsely : Prop := linearOrdersRow.holds Try.pinned (OpenSpec.ofChange linearOrdersWrong)

/-- 'glebelaw25.LinearDoes': WHATEVER THE INPUT: true; the input reads as it did. -/
def linearDoesSpec : ChangeSpec := { name := "linearDoes", fn := fun _ => fun
  | [d1, d2, d3, d4, d5, d6] => { results := [.lit (.bool true)], args := [d1, d2, d3, d4, d5, d6] }
  | _ => none }
def linearDoesRow : OpenClaim := { program := "ytbengfmoimlnbaa", sum := "b8610021920080fb79817f423c5afb65a7eb635a9cfb10ecc3ff851f40fbec88", func := "glebe/glebelaw25.LinearDoes", spec := "linearDoes", unfollowed := true, recurses := true, plainKeys := false, apart := false }
def LinearDoesSaid : Prop := linearDoesRow.holds Try.pinned (OpenSpec.ofChange linearDoesSpec)

/-- ITS FALSE NEIGHBOUR: 'it returns false'. Refute it at one input. -/
def linearDoesWrong : ChangeSpec := { name := "linearDoes", fn := fun _ => fun
  | [d1, d2, d3, d4, d5, d6] => { results := [.lit (.bool false)], args := [d1, d2, d3, d4, d5, d6] }
  | _ => none }
def LinearDoesWrongFalsely : Prop := linearDoesRow.holds Try.pinned (OpenSpec.ofChange linearDoesWrong)

/-- 'glebelaw25.LinearSizes': WHATEVER THE INPUT: true; the input reads as it did. -/
def linearSizesSpec : ChangeSpec := { name := "linearSizes", fn := fun _ => fun
  | [d1, d2] => { results := [.lit (.bool true)], args := [d1, d2] }
  | _ => none }
def linearSizesRow : OpenClaim := { program := "ytbengfmoimlnbaa", sum := "b8610021920080fb79817f423c5afb65a7eb635a9cfb10ecc3ff851f40fbec88", func := "glebe/glebelaw25.LinearSizes", spec := "linearSizes", unfollowed := true, recurses := true, plainKeys := false, apart := false }
def LinearSizesSaid : Prop := linearSizesRow.holds Try.pinned (OpenSpec.ofChange linearSizesSpec)

/-- ITS FALSE NEIGHBOUR: 'it returns false'. Refute it at one input. -/
def linearSizesWrong : ChangeSpec := { name := "linearSizes", fn := fun _ => fun
  | [d1, d2] => { results := [.lit (.bool false)], args := [d1, d2] }
  | _ => none }
def LinearSizesWrongFalsely : Prop := linearSizesRow.holds Try.pinned (OpenSpec.ofChange linearSizesWrong)

/-- 'glebelaw25.LinearRow': WHATEVER THE INPUT: true; the input reads as it did. -/
def linearRowSpec : ChangeSpec := { name := "linearRow", fn := fun _ => fun
  | [d1, d2, d3, d4, d5] => { results := [.lit (.bool true)], args := [d1, d2, d3, d4, d5] }
  | _ => none }
def linearRowRow : OpenClaim := { program := "ytbengfmoimlnbaa", sum := "b8610021920080fb79817f423c5afb65a7eb635a9cfb10ecc3ff851f40fbec88", func := "glebe/glebelaw25.LinearRow", spec := "linearRow", unfollowed := true, recurses := true, plainKeys := false, apart := false }
def LinearRowSaid : Prop := linearRowRow.holds Try.pinned (OpenSpec.ofChange linearRowSpec)

/-- ITS FALSE NEIGHBOUR: 'it returns false'. Refute it at one input. -/
def linearRowWrong : ChangeSpec := { name := "linearRow", fn := fun _ => fun
  | [d1, d2, d3, d4, d5] => { results := [.lit (.bool false)], args := [d1, d2, d3, d4, d5] }
  | _ => none }
def LinearRowWrongFalsely : Prop := linearRowRow.holds Try.pinned (OpenSpec.ofChange linearRowWrong)

/-- 'glebelaw25.LinearTold': WHATEVER THE INPUT: true; the input reads as it did. -/
def linearToldSpec : ChangeSpec := { name := "linearTold", fn := fun _ => fun
  | [d] => { results := [.lit (.bool true)], args := [d] }
  | _ => none }
def linearToldRow : OpenClaim := { program := "ytbengfmoimlnbaa", sum := "b8610021920080fb79817f423c5afb65a7eb635a9cfb10ecc3ff851f40fbec88", func := "glebe/glebelaw25.LinearTold", spec := "linearTold", unfollowed := true, recurses := true, plainKeys := false, apart := false }
def LinearToldSaid : Prop := linearToldRow.holds Try.pinned (OpenSpec.ofChange linearToldSpec)

/-- ITS FALSE NEIGHBOUR: 'it returns false'. Refute it at one input. -/
def linearToldWrong : ChangeSpec := { name := "linearTold", fn := fun _ => fun
  | [d] => { results := [.lit (.bool false)], args := [d] }
  | _ => none }
def LinearToldWrongFalsely : Prop := linearToldRow.holds Try.pinned (OpenSpec.ofChange linearToldWrong)

/- THE SECOND FORM. 'bulk': how many values and letters a reading holds, each counted each time it is reached (what is shared counts as often as it is met; a slice's spare places count too). A statement '..UptoSaid' is the law's where the arguments, and the package variables that the reading takes, are together of bulk at most 1048576: NARROWER than '..Said'. Prove '..Said' where nothing that the law and all that it calls make is longer than what came in: it says more and counts as full. Else prove '..UptoSaid'. A law counts once. -/
mutual
def uptoBulk {H : Type} : DataW H → Nat
  | .lit (.string bytes) => bytes.length + 1
  | .lit _ => 1
  | .nil => 1
  | .ptr d => uptoBulk d + 1
  | .slice elems spare => uptoBulkAll elems + uptoBulkAll spare + 1
  | .agg parts => uptoBulkAll parts + 1
  | .iface _ d => uptoBulk d + 1
  | .map entries => uptoBulkEntries entries + 1
  | .held _ => 1
def uptoBulkAll {H : Type} : List (DataW H) → Nat
  | [] => 0
  | d :: r => uptoBulk d + uptoBulkAll r
def uptoBulkEntries {H : Type} : List (Lit × DataW H) → Nat
  | [] => 0
  | x :: r => uptoBulkEntry x + uptoBulkEntries r
def uptoBulkEntry {H : Type} : Lit × DataW H → Nat
  | (.string bytes, d) => bytes.length + uptoBulk d + 1
  | (_, d) => uptoBulk d + 1
 end
def uptoSmall : (H : Type) → List (DataW H) → Bool := fun _ ds => decide (uptoBulkAll ds ≤ 1048576)
def OpenSpec.upto (s : _root_.Go.ChangeSpec) : _root_.Go.OpenSpec := { _root_.Go.OpenSpec.ofChange s with cond := some uptoSmall }

/-- 'glebelaw25.LinearOrders', WHERE WHAT IT READS IS OF BULK AT MOST 1048576: true; the input reads as it did. -/
def linearOrdersUptoRow : OpenClaim := { program := "ytbengfmoimlnbaa", sum := "b8610021920080fb79817f423c5afb65a7eb635a9cfb10ecc3ff851f40fbec88", func := "glebe/glebelaw25.LinearOrders", spec := "linearOrders", unfollowed := true, recurses := true, plainKeys := false, apart := false, narrowed := true }
def LinearOrdersUptoSaid : Prop := linearOrdersUptoRow.holds Try.pinned (OpenSpec.upto linearOrdersSpec)

/-- 'glebelaw25.LinearDoes', WHERE WHAT IT READS IS OF BULK AT MOST 1048576: true; the input reads as it did. -/
def linearDoesUptoRow : OpenClaim := { program := "ytbengfmoimlnbaa", sum := "b8610021920080fb79817f423c5afb65a7eb635a9cfb10ecc3ff851f40fbec88", func := "glebe/glebelaw25.LinearDoes", spec := "linearDoes", unfollowed := true, recurses := true, plainKeys := false, apart := false, narrowed := true }
def LinearDoesUptoSaid : Prop := linearDoesUptoRow.holds Try.pinned (OpenSpec.upto linearDoesSpec)

/-- 'glebelaw25.LinearSizes', WHERE WHAT IT READS IS OF BULK AT MOST 1048576: true; the input reads as it did. -/
def linearSizesUptoRow : OpenClaim := { program := "ytbengfmoimlnbaa", sum := "b8610021920080fb79817f423c5afb65a7eb635a9cfb10ecc3ff851f40fbec88", func := "glebe/glebelaw25.LinearSizes", spec := "linearSizes", unfollowed := true, recurses := true, plainKeys := false, apart := false, narrowed := true }
def LinearSizesUptoSaid : Prop := linearSizesUptoRow.holds Try.pinned (OpenSpec.upto linearSizesSpec)

/-- 'glebelaw25.LinearRow', WHERE WHAT IT READS IS OF BULK AT MOST 1048576: true; the input reads as it did. -/
def linearRowUptoRow : OpenClaim := { program := "ytbengfmoimlnbaa", sum := "b8610021920080fb79817f423c5afb65a7eb635a9cfb10ecc3ff851f40fbec88", func := "glebe/glebelaw25.LinearRow", spec := "linearRow", unfollowed := true, recurses := true, plainKeys := false, apart := false, narrowed := true }
def LinearRowUptoSaid : Prop := linearRowUptoRow.holds Try.pinned (OpenSpec.upto linearRowSpec)

/-- 'glebelaw25.LinearTold', WHERE WHAT IT READS IS OF BULK AT MOST 1048576: true; the input reads as it did. -/
def linearToldUptoRow : OpenClaim := { program := "ytbengfmoimlnbaa", sum := "b8610021920080fb79817f423c5afb65a7eb635a9cfb10ecc3ff851f40fbec88", func := "glebe/glebelaw25.LinearTold", spec := "linearTold", unfollowed := true, recurses := true, plainKeys := false, apart := false, narrowed := true }
def LinearToldUptoSaid : Prop := linearToldUptoRow.holds Try.pinned (OpenSpec.upto linearToldSpec)

end Rows
end Go.Proofs.Ytbengfmoimlnbaa
