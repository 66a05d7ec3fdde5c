/-
  No cell of these rows narrows 'for every input' (looked for: loops, veiled, ifaces, maps, wideKeys, modest, calm, conditions, laid).
  DERIVED. THE GIVEN ROWS OF THIS SEAT. 3 by the template 'for every input the law returns true; each argument reads behind the call as it read before'; 0 by the template 'total and deterministic' (their statements: YtimlldedpbbeoaaGreatTotals.lean).
  GIVEN WITH THE SEED: the statements are not yours to turn. If you find one false, say at which input.
  Laid BY PROGRAM, IN A SANDBOX (cutbox-rows.mjs): the forced cells as the released guide's own fill.sh prints them over the translation 5886ef93b5039d32… (all of the seat's roots in one cut). By AI agents, Wed Nov 11 2026. No macro, syntax, notation, axiom, sorry.
-/
import Derived.Test.YtimlldedpbbeoaaGreatChecked
import GoSem.Claim
import GoSem.ClaimJoined
import GoSem.ClaimMapViews
import Derived.JoinedTies
import Derived.KernelRfl
namespace Go.Proofs.YtimlldedpbbeoaaGreat
/- THE CELL 'sum', in the pinned program and in every row, IS THE sha256 OF THE DUMP (.gsa) THAT YtimlldedpbbeoaaGreatProg.lean LOADS. Nothing in Lean hashes anything: it is a label: what it is worth is what the hold of that sum in a sandbox is worth. -/
noncomputable def Tryz.pinned : Pinned := { name := "ytimlldedpbbeoaagreat", sum := "5886ef93b5039d32a568cd07ef15dd1271f46ac69976f5d5daa77e4e9518ac4a", checked := Tryz.checked }
namespace Rows
def none {H : Type} : Left H := { results := [], args := [] }

/-- 'glebelaw23.NodeCalls': WHATEVER THE INPUT: true; the input reads as it did. -/
def nodeCallsSpec : ChangeSpec := { name := "nodeCalls", fn := fun _ => fun
  | [d1, d2, d3, d4] => { results := [.lit (.bool true)], args := [d1, d2, d3, d4] }
  | _ => none }
def nodeCallsRow : OpenClaim := { program := "ytimlldedpbbeoaagreat", sum := "5886ef93b5039d32a568cd07ef15dd1271f46ac69976f5d5daa77e4e9518ac4a", func := "glebe/glebelaw23.NodeCalls", spec := "nodeCalls", inPlace := ["internal/bytealg.abigen_runtime_cmpstring", "slices.overlaps[glebe/point.Rec]"], unfollowed := true, recurses := true, plainKeys := false, apart := false }
def NodeCallsSaid : Prop := nodeCallsRow.holds Tryz.pinned (OpenSpec.ofChange nodeCallsSpec)

/-- ITS FALSE NEIGHBOUR: 'it returns false'. Refute it at one input. -/
def nodeCallsWrong : ChangeSpec := { name := "nodeCalls", fn := fun _ => fun
  | [d1, d2, d3, d4] => { results := [.lit (.bool false)], args := [d1, d2, d3, d4] }
  | _ => none }
def NodeCallsWrongFalsely : Prop := nodeCallsRow.holds Tryz.pinned (OpenSpec.ofChange nodeCallsWrong)

/-- 'glebelaw28.RoundsBound': WHATEVER THE INPUT: true; the input reads as it did. -/
def roundsBoundSpec : ChangeSpec := { name := "roundsBound", fn := fun _ => fun
  | [d1, d2, d3, d4] => { results := [.lit (.bool true)], args := [d1, d2, d3, d4] }
  | _ => none }
def roundsBoundRow : OpenClaim := { program := "ytimlldedpbbeoaagreat", sum := "5886ef93b5039d32a568cd07ef15dd1271f46ac69976f5d5daa77e4e9518ac4a", func := "glebe/glebelaw28.RoundsBound", spec := "roundsBound", inPlace := ["internal/bytealg.abigen_runtime_cmpstring", "slices.overlaps[glebe/point.Rec]"], unfollowed := true, recurses := true, plainKeys := false, apart := false }
def RoundsBoundSaid : Prop := roundsBoundRow.holds Tryz.pinned (OpenSpec.ofChange roundsBoundSpec)

/-- ITS FALSE NEIGHBOUR: 'it returns false'. Refute it at one input. -/
def roundsBoundWrong : ChangeSpec := { name := "roundsBound", fn := fun _ => fun
  | [d1, d2, d3, d4] => { results := [.lit (.bool false)], args := [d1, d2, d3, d4] }
  | _ => none }
def RoundsBoundWrongFalsely : Prop := roundsBoundRow.holds Tryz.pinned (OpenSpec.ofChange roundsBoundWrong)

/-- 'glebelaw28.RoundsNil': WHATEVER THE INPUT: true; the input reads as it did. -/
def roundsNilSpec : ChangeSpec := { name := "roundsNil", fn := fun _ => fun
  | [d] => { results := [.lit (.bool true)], args := [d] }
  | _ => none }
def roundsNilRow : OpenClaim := { program := "ytimlldedpbbeoaagreat", sum := "5886ef93b5039d32a568cd07ef15dd1271f46ac69976f5d5daa77e4e9518ac4a", func := "glebe/glebelaw28.RoundsNil", spec := "roundsNil", inPlace := ["internal/bytealg.abigen_runtime_cmpstring", "slices.overlaps[glebe/point.Rec]"], unfollowed := true, recurses := true, plainKeys := false, apart := false }
def RoundsNilSaid : Prop := roundsNilRow.holds Tryz.pinned (OpenSpec.ofChange roundsNilSpec)

/-- ITS FALSE NEIGHBOUR: 'it returns false'. Refute it at one input. -/
def roundsNilWrong : ChangeSpec := { name := "roundsNil", fn := fun _ => fun
  | [d] => { results := [.lit (.bool false)], args := [d] }
  | _ => none }
def RoundsNilWrongFalsely : Prop := roundsNilRow.holds Tryz.pinned (OpenSpec.ofChange roundsNilWrong)

/- THE SECOND FORM. 'bulk': how many values and letters a reading holds, each counted each time it is reached (what is shared counts as often as it is met; a slice's spare places count too). A statement '..UptoSaid' is the law's where the arguments, and the package variables that the reading takes, are together of bulk at most 1048576: NARROWER than '..Said'. Prove '..Said' where nothing that the law and all that it calls make is longer than what came in: it says more and counts as full. Else prove '..UptoSaid'. A law counts once. -/
mutual
def uptoBulk {H : Type} : DataW H → Nat
  | .lit (.string bytes) => bytes.length + 1
  | .lit _ => 1
  | .nil => 1
  | .ptr d => uptoBulk d + 1
  | .slice elems spare => uptoBulkAll elems + uptoBulkAll spare + 1
  | .agg parts => uptoBulkAll parts + 1
  | .iface _ d => uptoBulk d + 1
  | .map entries => uptoBulkEntries entries + 1
  | .held _ => 1
def uptoBulkAll {H : Type} : List (DataW H) → Nat
  | [] => 0
  | d :: r => uptoBulk d + uptoBulkAll r
def uptoBulkEntries {H : Type} : List (Lit × DataW H) → Nat
  | [] => 0
  | x :: r => uptoBulkEntry x + uptoBulkEntries r
def uptoBulkEntry {H : Type} : Lit × DataW H → Nat
  | (.string bytes, d) => bytes.length + uptoBulk d + 1
  | (_, d) => uptoBulk d + 1
 end
def uptoSmall : (H : Type) → List (DataW H) → Bool := fun _ ds => decide (uptoBulkAll ds ≤ 1048576)
def OpenSpec.upto (s : _root_.Go.ChangeSpec) : _root_.Go.OpenSpec := { _root_.Go.OpenSpec.ofChange s with cond := some uptoSmall }

/-- 'glebelaw23.NodeCalls', WHERE WHAT IT READS IS OF BULK AT MOST 1048576: true; the input reads as it did. -/
def nodeCallsUptoRow : OpenClaim := { program := "ytimlldedpbbeoaagreat", sum := "5886ef93b5039d32a568cd07ef15dd1271f46ac69976f5d5daa77e4e9518ac4a", func := "glebe/glebelaw23.NodeCalls", spec := "nodeCalls", inPlace := ["internal/bytealg.abigen_runtime_cmpstring", "slices.overlaps[glebe/point.Rec]"], unfollowed := true, recurses := true, plainKeys := false, apart := false, narrowed := true }
def NodeCallsUptoSaid : Prop := nodeCallsUptoRow.holds Tryz.pinned (OpenSpec.upto nodeCallsSpec)

/-- 'glebelaw28.RoundsBound', WHERE WHAT IT READS IS OF BULK AT MOST 1048576: true; the input reads as it did. -/
def roundsBoundUptoRow : OpenClaim := { program := "ytimlldedpbbeoaagreat", sum := "5886ef93b5039d32a568cd07ef15dd1271f46ac69976f5d5daa77e4e9518ac4a", func := "glebe/glebelaw28.RoundsBound", spec := "roundsBound", inPlace := ["internal/bytealg.abigen_runtime_cmpstring", "slices.overlaps[glebe/point.Rec]"], unfollowed := true, recurses := true, plainKeys := false, apart := false, narrowed := true }
def RoundsBoundUptoSaid : Prop := roundsBoundUptoRow.holds Tryz.pinned (OpenSpec.upto roundsBoundSpec)

/-- 'glebelaw28.RoundsNil', WHERE WHAT IT READS IS OF BULK AT MOST 1048576: true; the input reads as it did. -/
def roundsNilUptoRow : OpenClaim := { program := "ytimlldedpbbeoaagreat", sum := "5886ef93b5039d32a568cd07ef15dd1271f46ac69976f5d5daa77e4e9518ac4a", func := "glebe/glebelaw28.RoundsNil", spec := "roundsNil", inPlace := ["internal/bytealg.abigen_runtime_cmpstring", "slices.overlaps[glebe/point.Rec]"], unfollowed := true, recurses := true, plainKeys := false, apart := false, narrowed := true }
def RoundsNilUptoSaid : Prop := roundsNilUptoRow.holds Tryz.pinned (OpenSpec.upto roundsNilSpec)

end Rows
end Go.Proofs.YtimlldedpbbeoaaGreat
