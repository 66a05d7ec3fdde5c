/-
  No cell of these rows narrows 'for every input' (looked for: loops, veiled, ifaces, maps, wideKeys, modest, calm, conditions, laid).
  DERIVED. THE GIVEN ROWS OF THIS SEAT. 5 by the template 'for every input the law returns true; each argument reads behind the call as it read before'; 0 by the template 'total and deterministic' (their statements: YtcllmbmgchhigaaGreatTotals.lean).
  GIVEN WITH THE SEED: the statements are not yours to turn. If you find one false, say at which input.
  Laid BY PROGRAM, IN A SANDBOX (cutbox-rows.mjs): the forced cells as the released guide's own fill.sh prints them over the translation c5033a626ea61819… (all of the seat's roots in one cut). By AI agents, Wed Nov 11 2026. No macro, syntax, notation, axiom, sorry.
-/
import Derived.Test.YtcllmbmgchhigaaGreatChecked
import GoSem.Claim
import GoSem.ClaimJoined
import GoSem.ClaimMapViews
import Derived.JoinedTies
import Derived.KernelRfl
namespace Go.Proofs.YtcllmbmgchhigaaGreat
/- THE CELL 'sum', in the pinned program and in every row, IS THE sha256 OF THE DUMP (.gsa) THAT YtcllmbmgchhigaaGreatProg.lean LOADS. Nothing in Lean hashes anything: it is a label: what it is worth is what the hold of that sum in a sandbox is worth. -/
noncomputable def Tryz.pinned : Pinned := { name := "ytcllmbmgchhigaagreat", sum := "c5033a626ea61819bce980d1ed93d81c167cf65e427cac33c7a44bd2996d66d8", checked := Tryz.checked }
namespace Rows
def none {H : Type} : Left H := { results := [], args := [] }

/-- 'glebelaw23.NodeConfigs': WHATEVER THE INPUT: true; the input reads as it did. -/
def nodeConfigsSpec : ChangeSpec := { name := "nodeConfigs", fn := fun _ => fun
  | [d1, d2, d3, d4, d5, d6, d7] => { results := [.lit (.bool true)], args := [d1, d2, d3, d4, d5, d6, d7] }
  | _ => none }
def nodeConfigsRow : OpenClaim := { program := "ytcllmbmgchhigaagreat", sum := "c5033a626ea61819bce980d1ed93d81c167cf65e427cac33c7a44bd2996d66d8", func := "glebe/glebelaw23.NodeConfigs", spec := "nodeConfigs", inPlace := ["internal/bytealg.abigen_runtime_cmpstring", "slices.overlaps[glebe/point.Rec]"], unfollowed := true, recurses := true, plainKeys := false, apart := false }
def NodeConfigsSaid : Prop := nodeConfigsRow.holds Tryz.pinned (OpenSpec.ofChange nodeConfigsSpec)

/-- ITS FALSE NEIGHBOUR: 'it returns false'. Refute it at one input. -/
def nodeConfigsWrong : ChangeSpec := { name := "nodeConfigs", fn := fun _ => fun
  | [d1, d2, d3, d4, d5, d6, d7] => { results := [.lit (.bool false)], args := [d1, d2, d3, d4, d5, d6, d7] }
  | _ => none }
def NodeConfigsWrongFalsely : Prop := nodeConfigsRow.holds Tryz.pinned (OpenSpec.ofChange nodeConfigsWrong)

/-- 'glebelaw23.NodeCalls': WHATEVER THE INPUT: true; the input reads as it did. -/
def nodeCallsSpec : ChangeSpec := { name := "nodeCalls", fn := fun _ => fun
  | [d1, d2, d3, d4] => { results := [.lit (.bool true)], args := [d1, d2, d3, d4] }
  | _ => none }
def nodeCallsRow : OpenClaim := { program := "ytcllmbmgchhigaagreat", sum := "c5033a626ea61819bce980d1ed93d81c167cf65e427cac33c7a44bd2996d66d8", func := "glebe/glebelaw23.NodeCalls", spec := "nodeCalls", inPlace := ["internal/bytealg.abigen_runtime_cmpstring", "slices.overlaps[glebe/point.Rec]"], unfollowed := true, recurses := true, plainKeys := false, apart := false }
def NodeCallsSaid : Prop := nodeCallsRow.holds Tryz.pinned (OpenSpec.ofChange nodeCallsSpec)

/-- ITS FALSE NEIGHBOUR: 'it returns false'. Refute it at one input. -/
def nodeCallsWrong : ChangeSpec := { name := "nodeCalls", fn := fun _ => fun
  | [d1, d2, d3, d4] => { results := [.lit (.bool false)], args := [d1, d2, d3, d4] }
  | _ => none }
def NodeCallsWrongFalsely : Prop := nodeCallsRow.holds Tryz.pinned (OpenSpec.ofChange nodeCallsWrong)

/-- 'glebelaw23.NodeAlone': WHATEVER THE INPUT: true; the input reads as it did. -/
def nodeAloneSpec : ChangeSpec := { name := "nodeAlone", fn := fun _ => fun
  | [d1, d2] => { results := [.lit (.bool true)], args := [d1, d2] }
  | _ => none }
def nodeAloneRow : OpenClaim := { program := "ytcllmbmgchhigaagreat", sum := "c5033a626ea61819bce980d1ed93d81c167cf65e427cac33c7a44bd2996d66d8", func := "glebe/glebelaw23.NodeAlone", spec := "nodeAlone", inPlace := ["internal/bytealg.abigen_runtime_cmpstring", "slices.overlaps[glebe/point.Rec]"], unfollowed := true, recurses := true, plainKeys := false, apart := false }
def NodeAloneSaid : Prop := nodeAloneRow.holds Tryz.pinned (OpenSpec.ofChange nodeAloneSpec)

/-- ITS FALSE NEIGHBOUR: 'it returns false'. Refute it at one input. -/
def nodeAloneWrong : ChangeSpec := { name := "nodeAlone", fn := fun _ => fun
  | [d1, d2] => { results := [.lit (.bool false)], args := [d1, d2] }
  | _ => none }
def NodeAloneWrongFalsely : Prop := nodeAloneRow.holds Tryz.pinned (OpenSpec.ofChange nodeAloneWrong)

/-- 'glebelaw23.NodeBytes': WHATEVER THE INPUT: true; the input reads as it did. -/
def nodeBytesSpec : ChangeSpec := { name := "nodeBytes", fn := fun _ => fun
  | [d1, d2, d3] => { results := [.lit (.bool true)], args := [d1, d2, d3] }
  | _ => none }
def nodeBytesRow : OpenClaim := { program := "ytcllmbmgchhigaagreat", sum := "c5033a626ea61819bce980d1ed93d81c167cf65e427cac33c7a44bd2996d66d8", func := "glebe/glebelaw23.NodeBytes", spec := "nodeBytes", inPlace := ["internal/bytealg.abigen_runtime_cmpstring", "slices.overlaps[glebe/point.Rec]"], unfollowed := true, recurses := true, plainKeys := false, apart := false }
def NodeBytesSaid : Prop := nodeBytesRow.holds Tryz.pinned (OpenSpec.ofChange nodeBytesSpec)

/-- ITS FALSE NEIGHBOUR: 'it returns false'. Refute it at one input. -/
def nodeBytesWrong : ChangeSpec := { name := "nodeBytes", fn := fun _ => fun
  | [d1, d2, d3] => { results := [.lit (.bool false)], args := [d1, d2, d3] }
  | _ => none }
def NodeBytesWrongFalsely : Prop := nodeBytesRow.holds Tryz.pinned (OpenSpec.ofChange nodeBytesWrong)

/-- 'glebelaw23.NodeNil': WHATEVER THE INPUT: true; the input reads as it did. -/
def nodeNilSpec : ChangeSpec := { name := "nodeNil", fn := fun _ => fun
  | [d1, d2, d3] => { results := [.lit (.bool true)], args := [d1, d2, d3] }
  | _ => none }
def nodeNilRow : OpenClaim := { program := "ytcllmbmgchhigaagreat", sum := "c5033a626ea61819bce980d1ed93d81c167cf65e427cac33c7a44bd2996d66d8", func := "glebe/glebelaw23.NodeNil", spec := "nodeNil", inPlace := ["internal/bytealg.abigen_runtime_cmpstring", "slices.overlaps[glebe/point.Rec]"], unfollowed := true, recurses := true, plainKeys := false, apart := false }
def NodeNilSaid : Prop := nodeNilRow.holds Tryz.pinned (OpenSpec.ofChange nodeNilSpec)

/-- ITS FALSE NEIGHBOUR: 'it returns false'. Refute it at one input. -/
def nodeNilWrong : ChangeSpec := { name := "nodeNil", fn := fun _ => fun
  | [d1, d2, d3] => { results := [.lit (.bool false)], args := [d1, d2, d3] }
  | _ => none }
def NodeNilWrongFalsely : Prop := nodeNilRow.holds Tryz.pinned (OpenSpec.ofChange nodeNilWrong)

/- THE SECOND FORM. 'bulk': how many values and letters a reading holds, each counted each time it is reached (what is shared counts as often as it is met; a slice's spare places count too). A statement '..UptoSaid' is the law's where the arguments, and the package variables that the reading takes, are together of bulk at most 1048576: NARROWER than '..Said'. Prove '..Said' where nothing that the law and all that it calls make is longer than what came in: it says more and counts as full. Else prove '..UptoSaid'. A law counts once. -/
mutual
def uptoBulk {H : Type} : DataW H → Nat
  | .lit (.string bytes) => bytes.length + 1
  | .lit _ => 1
  | .nil => 1
  | .ptr d => uptoBulk d + 1
  | .slice elems spare => uptoBulkAll elems + uptoBulkAll spare + 1
  | .agg parts => uptoBulkAll parts + 1
  | .iface _ d => uptoBulk d + 1
  | .map entries => uptoBulkEntries entries + 1
  | .held _ => 1
def uptoBulkAll {H : Type} : List (DataW H) → Nat
  | [] => 0
  | d :: r => uptoBulk d + uptoBulkAll r
def uptoBulkEntries {H : Type} : List (Lit × DataW H) → Nat
  | [] => 0
  | x :: r => uptoBulkEntry x + uptoBulkEntries r
def uptoBulkEntry {H : Type} : Lit × DataW H → Nat
  | (.string bytes, d) => bytes.length + uptoBulk d + 1
  | (_, d) => uptoBulk d + 1
 end
def uptoSmall : (H : Type) → List (DataW H) → Bool := fun _ ds => decide (uptoBulkAll ds ≤ 1048576)
def OpenSpec.upto (s : _root_.Go.ChangeSpec) : _root_.Go.OpenSpec := { _root_.Go.OpenSpec.ofChange s with cond := some uptoSmall }

/-- 'glebelaw23.NodeConfigs', WHERE WHAT IT READS IS OF BULK AT MOST 1048576: true; the input reads as it did. -/
def nodeConfigsUptoRow : OpenClaim := { program := "ytcllmbmgchhigaagreat", sum := "c5033a626ea61819bce980d1ed93d81c167cf65e427cac33c7a44bd2996d66d8", func := "glebe/glebelaw23.NodeConfigs", spec := "nodeConfigs", inPlace := ["internal/bytealg.abigen_runtime_cmpstring", "slices.overlaps[glebe/point.Rec]"], unfollowed := true, recurses := true, plainKeys := false, apart := false, narrowed := true }
def NodeConfigsUptoSaid : Prop := nodeConfigsUptoRow.holds Tryz.pinned (OpenSpec.upto nodeConfigsSpec)

/-- 'glebelaw23.NodeCalls', WHERE WHAT IT READS IS OF BULK AT MOST 1048576: true; the input reads as it did. -/
def nodeCallsUptoRow : OpenClaim := { program := "ytcllmbmgchhigaagreat", sum := "c5033a626ea61819bce980d1ed93d81c167cf65e427cac33c7a44bd2996d66d8", func := "glebe/glebelaw23.NodeCalls", spec := "nodeCalls", inPlace := ["internal/bytealg.abigen_runtime_cmpstring", "slices.overlaps[glebe/point.Rec]"], unfollowed := true, recurses := true, plainKeys := false, apart := false, narrowed := true }
def NodeCallsUptoSaid : Prop := nodeCallsUptoRow.holds Tryz.pinned (OpenSpec.upto nodeCallsSpec)

/-- 'glebelaw23.NodeAlone', WHERE WHAT IT READS IS OF BULK AT MOST 1048576: true; the input reads as it did. -/
def nodeAloneUptoRow : OpenClaim := { program := "ytcllmbmgchhigaagreat", sum := "c5033a626ea61819bce980d1ed93d81c167cf65e427cac33c7a44bd2996d66d8", func := "glebe/glebelaw23.NodeAlone", spec := "nodeAlone", inPlace := ["internal/bytealg.abigen_runtime_cmpstring", "slices.overlaps[glebe/point.Rec]"], unfollowed := true, recurses := true, plainKeys := false, apart := false, narrowed := true }
def NodeAloneUptoSaid : Prop := nodeAloneUptoRow.holds Tryz.pinned (OpenSpec.upto nodeAloneSpec)

/-- 'glebelaw23.NodeBytes', WHERE WHAT IT READS IS OF BULK AT MOST 1048576: true; the input reads as it did. -/
def nodeBytesUptoRow : OpenClaim := { program := "ytcllmbmgchhigaagreat", sum := "c5033a626ea61819bce980d1ed93d81c167cf65e427cac33c7a44bd2996d66d8", func := "glebe/glebelaw23.NodeBytes", spec := "nodeBytes", inPlace := ["internal/bytealg.abigen_runtime_cmpstring", "slices.overlaps[glebe/point.Rec]"], unfollowed := true, recurses := true, plainKeys := false, apart := false, narrowed := true }
def NodeBytesUptoSaid : Prop := nodeBytesUptoRow.holds Tryz.pinned (OpenSpec.upto nodeBytesSpec)

/-- 'glebelaw23.NodeNil', WHERE WHAT IT READS IS OF BULK AT MOST 1048576: true; the input reads as it did. -/
def nodeNilUptoRow : OpenClaim := { program := "ytcllmbmgchhigaagreat", sum := "c5033a626ea61819bce980d1ed93d81c167cf65e427cac33c7a44bd2996d66d8", func := "glebe/glebelaw23.NodeNil", spec := "nodeNil", inPlace := ["internal/bytealg.abigen_runtime_cmpstring", "slices.overlaps[glebe/point.Rec]"], unfollowed := true, recurses := true, plainKeys := false, apart := false, narrowed := true }
def NodeNilUptoSaid : Prop := nodeNilUptoRow.holds Tryz.pinned (OpenSpec.upto nodeNilSpec)

end Rows
end Go.Proofs.YtcllmbmgchhigaaGreat
