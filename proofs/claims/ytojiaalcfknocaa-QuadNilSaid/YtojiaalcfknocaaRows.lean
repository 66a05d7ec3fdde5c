/-
  No cell of these rows narrows 'for every input' (looked for: loops, veiled, ifaces, maps, wideKeys, modest, calm, conditions, laid).
  DERIVED. THE GIVEN ROWS OF THIS SEAT. 3 by the template 'for every input the law returns true; each argument reads behind the call as it read before'; 0 by the template 'total and deterministic' (their statements: YtojiaalcfknocaaTotals.lean).
  GIVEN WITH THE SEED: the statements are not yours to turn. If you find one false, say at which input.
  Laid BY PROGRAM, IN A SANDBOX (cutbox-rows.mjs): the forced cells as the released guide's own fill.sh prints them over the translation 36c85c3a62ba38ca… (all of the seat's roots in one cut). By AI agents, Wed Nov 11 2026. No macro, syntax, notation, axiom, sorry.
-/
import Derived.Test.YtojiaalcfknocaaChecked
import GoSem.Claim
import GoSem.ClaimJoined
import GoSem.ClaimMapViews
import Derived.JoinedTies
import Derived.KernelRfl
namespace Go.Proofs.Ytojiaalcfknocaa
/- THE CELL 'sum', in the pinned program and in every row, IS THE sha256 OF THE DUMP (.gsa) THAT YtojiaalcfknocaaProg.lean LOADS. Nothing in Lean hashes anything: it is a label: what it is worth is what the hold of that sum in a sandbox is worth. -/
noncomputable def Try.pinned : Pinned := { name := "ytojiaalcfknocaa", sum := "36c85c3a62ba38cab148087cff203669bdab8b2a94eb524f10eb43ef0ae9b359", checked := Try.checked }
namespace Rows
def none {H : Type} : Left H := { results := [], args := [] }

/-- 'glebelaw08.QuadOrder': WHATEVER THE INPUT: true; the input reads as it did. -/
def quadOrderSpec : ChangeSpec := { name := "quadOrder", fn := fun _ => fun
  | [d1, d2, d3, d4, d5] => { results := [.lit (.bool true)], args := [d1, d2, d3, d4, d5] }
  | _ => none }
def quadOrderRow : OpenClaim := { program := "ytojiaalcfknocaa", sum := "36c85c3a62ba38cab148087cff203669bdab8b2a94eb524f10eb43ef0ae9b359", func := "glebe/glebelaw08.QuadOrder", spec := "quadOrder", inPlace := ["internal/bytealg.abigen_runtime_cmpstring", "slices.overlaps[glebe/point.Rec]"], unfollowed := true, recurses := true, apart := false }
def QuadOrderSaid : Prop := quadOrderRow.holds Try.pinned (OpenSpec.ofChange quadOrderSpec)

/-- ITS FALSE NEIGHBOUR: 'it returns false'. Refute it at one input. -/
def quadOrderWrong : ChangeSpec := { name := "quadOrder", fn := fun _ => fun
  | [d1, d2, d3, d4, d5] => { results := [.lit (.bool false)], args := [d1, d2, d3, d4, d5] }
  | _ => none }
def QuadOrderWrongFalsely : Prop := quadOrderRow.holds Try.pinned (OpenSpec.ofChange quadOrderWrong)

/-- 'glebelaw08.QuadNil': WHATEVER THE INPUT: true; the input reads as it did. -/
def quadNilSpec : ChangeSpec := { name := "quadNil", fn := fun _ => fun
  | [d1, d2] => { results := [.lit (.bool true)], args := [d1, d2] }
  | _ => none }
def quadNilRow : OpenClaim := { program := "ytojiaalcfknocaa", sum := "36c85c3a62ba38cab148087cff203669bdab8b2a94eb524f10eb43ef0ae9b359", func := "glebe/glebelaw08.QuadNil", spec := "quadNil", inPlace := ["internal/bytealg.abigen_runtime_cmpstring", "slices.overlaps[glebe/point.Rec]"], unfollowed := true, recurses := true, apart := false }
def QuadNilSaid : Prop := quadNilRow.holds Try.pinned (OpenSpec.ofChange quadNilSpec)

/-- ITS FALSE NEIGHBOUR: 'it returns false'. Refute it at one input. -/
def quadNilWrong : ChangeSpec := { name := "quadNil", fn := fun _ => fun
  | [d1, d2] => { results := [.lit (.bool false)], args := [d1, d2] }
  | _ => none }
def QuadNilWrongFalsely : Prop := quadNilRow.holds Try.pinned (OpenSpec.ofChange quadNilWrong)

/-- 'glebelaw08.QuadBack': WHATEVER THE INPUT: true; the input reads as it did. -/
def quadBackSpec : ChangeSpec := { name := "quadBack", fn := fun _ => fun
  | [d1, d2, d3] => { results := [.lit (.bool true)], args := [d1, d2, d3] }
  | _ => none }
def quadBackRow : OpenClaim := { program := "ytojiaalcfknocaa", sum := "36c85c3a62ba38cab148087cff203669bdab8b2a94eb524f10eb43ef0ae9b359", func := "glebe/glebelaw08.QuadBack", spec := "quadBack", inPlace := ["internal/bytealg.abigen_runtime_cmpstring", "slices.overlaps[glebe/point.Rec]"], unfollowed := true, recurses := true, apart := false }
def QuadBackSaid : Prop := quadBackRow.holds Try.pinned (OpenSpec.ofChange quadBackSpec)

/-- ITS FALSE NEIGHBOUR: 'it returns false'. Refute it at one input. -/
def quadBackWrong : ChangeSpec := { name := "quadBack", fn := fun _ => fun
  | [d1, d2, d3] => { results := [.lit (.bool false)], args := [d1, d2, d3] }
  | _ => none }
def QuadBackWrongFalsely : Prop := quadBackRow.holds Try.pinned (OpenSpec.ofChange quadBackWrong)

/- THE SECOND FORM. 'bulk': how many values and letters a reading holds, each counted each time it is reached (what is shared counts as often as it is met; a slice's spare places count too). A statement '..UptoSaid' is the law's where the arguments, and the package variables that the reading takes, are together of bulk at most 1048576: NARROWER than '..Said'. Prove '..Said' where nothing that the law and all that it calls make is longer than what came in: it says more and counts as full. Else prove '..UptoSaid'. A law counts once. -/
mutual
def uptoBulk {H : Type} : DataW H → Nat
  | .lit (.string bytes) => bytes.length + 1
  | .lit _ => 1
  | .nil => 1
  | .ptr d => uptoBulk d + 1
  | .slice elems spare => uptoBulkAll elems + uptoBulkAll spare + 1
  | .agg parts => uptoBulkAll parts + 1
  | .iface _ d => uptoBulk d + 1
  | .map entries => uptoBulkEntries entries + 1
  | .held _ => 1
def uptoBulkAll {H : Type} : List (DataW H) → Nat
  | [] => 0
  | d :: r => uptoBulk d + uptoBulkAll r
def uptoBulkEntries {H : Type} : List (Lit × DataW H) → Nat
  | [] => 0
  | x :: r => uptoBulkEntry x + uptoBulkEntries r
def uptoBulkEntry {H : Type} : Lit × DataW H → Nat
  | (.string bytes, d) => bytes.length + uptoBulk d + 1
  | (_, d) => uptoBulk d + 1
 end
def uptoSmall : (H : Type) → List (DataW H) → Bool := fun _ ds => decide (uptoBulkAll ds ≤ 1048576)
def OpenSpec.upto (s : _root_.Go.ChangeSpec) : _root_.Go.OpenSpec := { _root_.Go.OpenSpec.ofChange s with cond := some uptoSmall }

/-- 'glebelaw08.QuadOrder', WHERE WHAT IT READS IS OF BULK AT MOST 1048576: true; the input reads as it did. -/
def quadOrderUptoRow : OpenClaim := { program := "ytojiaalcfknocaa", sum := "36c85c3a62ba38cab148087cff203669bdab8b2a94eb524f10eb43ef0ae9b359", func := "glebe/glebelaw08.QuadOrder", spec := "quadOrder", inPlace := ["internal/bytealg.abigen_runtime_cmpstring", "slices.overlaps[glebe/point.Rec]"], unfollowed := true, recurses := true, apart := false, narrowed := true }
def QuadOrderUptoSaid : Prop := quadOrderUptoRow.holds Try.pinned (OpenSpec.upto quadOrderSpec)

/-- 'glebelaw08.QuadNil', WHERE WHAT IT READS IS OF BULK AT MOST 1048576: true; the input reads as it did. -/
def quadNilUptoRow : OpenClaim := { program := "ytojiaalcfknocaa", sum := "36c85c3a62ba38cab148087cff203669bdab8b2a94eb524f10eb43ef0ae9b359", func := "glebe/glebelaw08.QuadNil", spec := "quadNil", inPlace := ["internal/bytealg.abigen_runtime_cmpstring", "slices.overlaps[glebe/point.Rec]"], unfollowed := true, recurses := true, apart := false, narrowed := true }
def QuadNilUptoSaid : Prop := quadNilUptoRow.holds Try.pinned (OpenSpec.upto quadNilSpec)

/-- 'glebelaw08.QuadBack', WHERE WHAT IT READS IS OF BULK AT MOST 1048576: true; the input reads as it did. -/
def quadBackUptoRow : OpenClaim := { program := "ytojiaalcfknocaa", sum := "36c85c3a62ba38cab148087cff203669bdab8b2a94eb524f10eb43ef0ae9b359", func := "glebe/glebelaw08.QuadBack", spec := "quadBack", inPlace := ["internal/bytealg.abigen_runtime_cmpstring", "slices.overlaps[glebe/point.Rec]"], unfollowed := true, recurses := true, apart := false, narrowed := true }
def QuadBackUptoSaid : Prop := quadBackUptoRow.holds Try.pinned (OpenSpec.upto quadBackSpec)

end Rows
end Go.Proofs.Ytojiaalcfknocaa
