/-
  No cell of these rows narrows 'for every input' (looked for: loops, veiled, ifaces, maps, wideKeys, modest, calm, conditions, laid).
  DERIVED. THE GIVEN ROWS OF THIS SEAT. 3 by the template 'for every input the law returns true; each argument reads behind the call as it read before'; 0 by the template 'total and deterministic' (their statements: YtjmlcjkidblbhaaGreatTotals.lean).
  GIVEN WITH THE SEED: the statements are not yours to turn. If you find one false, say at which input.
  Laid BY PROGRAM, IN A SANDBOX (cutbox-rows.mjs): the forced cells as the released guide's own fill.sh prints them over the translation c68739887b038287… (all of the seat's roots in one cut). By AI agents, Wed Nov 11 2026. No macro, syntax, notation, axiom, sorry.
-/
import Derived.Test.YtjmlcjkidblbhaaGreatChecked
import GoSem.Claim
import GoSem.ClaimJoined
import GoSem.ClaimMapViews
import Derived.JoinedTies
import Derived.KernelRfl
namespace Go.Proofs.YtjmlcjkidblbhaaGreat
/- THE CELL 'sum', in the pinned program and in every row, IS THE sha256 OF THE DUMP (.gsa) THAT YtjmlcjkidblbhaaGreatProg.lean LOADS. Nothing in Lean hashes anything: it is a label: what it is worth is what the hold of that sum in a sandbox is worth. -/
noncomputable def Tryz.pinned : Pinned := { name := "ytjmlcjkidblbhaagreat", sum := "c68739887b038287df5646f0fcc798a23104069ab87a66c6e14ff2b3ded92407", checked := Tryz.checked }
namespace Rows
def none {H : Type} : Left H := { results := [], args := [] }

/-- 'glebelaw16.PlanHeirs': WHATEVER THE INPUT: true; the input reads as it did. -/
def planHeirsSpec : ChangeSpec := { name := "planHeirs", fn := fun _ => fun
  | [d1, d2, d3, d4, d5] => { results := [.lit (.bool true)], args := [d1, d2, d3, d4, d5] }
  | _ => none }
def planHeirsRow : OpenClaim := { program := "ytjmlcjkidblbhaagreat", sum := "c68739887b038287df5646f0fcc798a23104069ab87a66c6e14ff2b3ded92407", func := "glebe/glebelaw16.PlanHeirs", spec := "planHeirs", unfollowed := true, recurses := true, plainKeys := false, apart := false }
def PlanHeirsSaid : Prop := planHeirsRow.holds Tryz.pinned (OpenSpec.ofChange planHeirsSpec)

/-- ITS FALSE NEIGHBOUR: 'it returns false'. Refute it at one input. -/
def planHeirsWrong : ChangeSpec := { name := "planHeirs", fn := fun _ => fun
  | [d1, d2, d3, d4, d5] => { results := [.lit (.bool false)], args := [d1, d2, d3, d4, d5] }
  | _ => none }
def PlanHeirsWrongFalsely : Prop := planHeirsRow.holds Tryz.pinned (OpenSpec.ofChange planHeirsWrong)

/-- 'glebelaw16.PlanNil': WHATEVER THE INPUT: true; the input reads as it did. -/
def planNilSpec : ChangeSpec := { name := "planNil", fn := fun _ => fun
  | [d1, d2, d3] => { results := [.lit (.bool true)], args := [d1, d2, d3] }
  | _ => none }
def planNilRow : OpenClaim := { program := "ytjmlcjkidblbhaagreat", sum := "c68739887b038287df5646f0fcc798a23104069ab87a66c6e14ff2b3ded92407", func := "glebe/glebelaw16.PlanNil", spec := "planNil", unfollowed := true, recurses := true, plainKeys := false, apart := false }
def PlanNilSaid : Prop := planNilRow.holds Tryz.pinned (OpenSpec.ofChange planNilSpec)

/-- ITS FALSE NEIGHBOUR: 'it returns false'. Refute it at one input. -/
def planNilWrong : ChangeSpec := { name := "planNil", fn := fun _ => fun
  | [d1, d2, d3] => { results := [.lit (.bool false)], args := [d1, d2, d3] }
  | _ => none }
def PlanNilWrongFalsely : Prop := planNilRow.holds Tryz.pinned (OpenSpec.ofChange planNilWrong)

/-- 'glebelaw16.PlanEnds': WHATEVER THE INPUT: true; the input reads as it did. -/
def planEndsSpec : ChangeSpec := { name := "planEnds", fn := fun _ => fun
  | [d1, d2] => { results := [.lit (.bool true)], args := [d1, d2] }
  | _ => none }
def planEndsRow : OpenClaim := { program := "ytjmlcjkidblbhaagreat", sum := "c68739887b038287df5646f0fcc798a23104069ab87a66c6e14ff2b3ded92407", func := "glebe/glebelaw16.PlanEnds", spec := "planEnds", unfollowed := true, recurses := true, plainKeys := false, apart := false }
def PlanEndsSaid : Prop := planEndsRow.holds Tryz.pinned (OpenSpec.ofChange planEndsSpec)

/-- ITS FALSE NEIGHBOUR: 'it returns false'. Refute it at one input. -/
def planEndsWrong : ChangeSpec := { name := "planEnds", fn := fun _ => fun
  | [d1, d2] => { results := [.lit (.bool false)], args := [d1, d2] }
  | _ => none }
def PlanEndsWrongFalsely : Prop := planEndsRow.holds Tryz.pinned (OpenSpec.ofChange planEndsWrong)

/- THE SECOND FORM. 'bulk': how many values and letters a reading holds, each counted each time it is reached (what is shared counts as often as it is met; a slice's spare places count too). A statement '..UptoSaid' is the law's where the arguments, and the package variables that the reading takes, are together of bulk at most 1048576: NARROWER than '..Said'. Prove '..Said' where nothing that the law and all that it calls make is longer than what came in: it says more and counts as full. Else prove '..UptoSaid'. A law counts once. -/
mutual
def uptoBulk {H : Type} : DataW H → Nat
  | .lit (.string bytes) => bytes.length + 1
  | .lit _ => 1
  | .nil => 1
  | .ptr d => uptoBulk d + 1
  | .slice elems spare => uptoBulkAll elems + uptoBulkAll spare + 1
  | .agg parts => uptoBulkAll parts + 1
  | .iface _ d => uptoBulk d + 1
  | .map entries => uptoBulkEntries entries + 1
  | .held _ => 1
def uptoBulkAll {H : Type} : List (DataW H) → Nat
  | [] => 0
  | d :: r => uptoBulk d + uptoBulkAll r
def uptoBulkEntries {H : Type} : List (Lit × DataW H) → Nat
  | [] => 0
  | x :: r => uptoBulkEntry x + uptoBulkEntries r
def uptoBulkEntry {H : Type} : Lit × DataW H → Nat
  | (.string bytes, d) => bytes.length + uptoBulk d + 1
  | (_, d) => uptoBulk d + 1
 end
def uptoSmall : (H : Type) → List (DataW H) → Bool := fun _ ds => decide (uptoBulkAll ds ≤ 1048576)
def OpenSpec.upto (s : _root_.Go.ChangeSpec) : _root_.Go.OpenSpec := { _root_.Go.OpenSpec.ofChange s with cond := some uptoSmall }

/-- 'glebelaw16.PlanHeirs', WHERE WHAT IT READS IS OF BULK AT MOST 1048576: true; the input reads as it did. -/
def planHeirsUptoRow : OpenClaim := { program := "ytjmlcjkidblbhaagreat", sum := "c68739887b038287df5646f0fcc798a23104069ab87a66c6e14ff2b3ded92407", func := "glebe/glebelaw16.PlanHeirs", spec := "planHeirs", unfollowed := true, recurses := true, plainKeys := false, apart := false, narrowed := true }
def PlanHeirsUptoSaid : Prop := planHeirsUptoRow.holds Tryz.pinned (OpenSpec.upto planHeirsSpec)

/-- 'glebelaw16.PlanNil', WHERE WHAT IT READS IS OF BULK AT MOST 1048576: true; the input reads as it did. -/
def planNilUptoRow : OpenClaim := { program := "ytjmlcjkidblbhaagreat", sum := "c68739887b038287df5646f0fcc798a23104069ab87a66c6e14ff2b3ded92407", func := "glebe/glebelaw16.PlanNil", spec := "planNil", unfollowed := true, recurses := true, plainKeys := false, apart := false, narrowed := true }
def PlanNilUptoSaid : Prop := planNilUptoRow.holds Tryz.pinned (OpenSpec.upto planNilSpec)

/-- 'glebelaw16.PlanEnds', WHERE WHAT IT READS IS OF BULK AT MOST 1048576: true; the input reads as it did. -/
def planEndsUptoRow : OpenClaim := { program := "ytjmlcjkidblbhaagreat", sum := "c68739887b038287df5646f0fcc798a23104069ab87a66c6e14ff2b3ded92407", func := "glebe/glebelaw16.PlanEnds", spec := "planEnds", unfollowed := true, recurses := true, plainKeys := false, apart := false, narrowed := true }
def PlanEndsUptoSaid : Prop := planEndsUptoRow.holds Tryz.pinned (OpenSpec.upto planEndsSpec)

end Rows
end Go.Proofs.YtjmlcjkidblbhaaGreat
