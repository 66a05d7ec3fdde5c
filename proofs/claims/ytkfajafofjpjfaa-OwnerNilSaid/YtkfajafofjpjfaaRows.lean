/-
  No cell of these rows narrows 'for every input' (looked for: loops, veiled, ifaces, maps, wideKeys, modest, calm, conditions, laid).
  DERIVED. THE GIVEN ROWS OF THIS SEAT. 2 by the template 'for every input the law returns true; each argument reads behind the call as it read before'; 0 by the template 'total and deterministic' (their statements: YtkfajafofjpjfaaTotals.lean).
  GIVEN WITH THE SEED: the statements are not yours to turn. If you find one false, say at which input.
  Laid BY PROGRAM, IN A SANDBOX (cutbox-rows.mjs): the forced cells as the released guide's own fill.sh prints them over the translation 8953f90f6880b34a… (all of the seat's roots in one cut). By AI agents, Wed Nov 11 2026. No macro, syntax, notation, axiom, sorry.
-/
import Derived.Test.YtkfajafofjpjfaaChecked
import GoSem.Claim
import GoSem.ClaimJoined
import GoSem.ClaimMapViews
import Derived.JoinedTies
import Derived.KernelRfl
namespace Go.Proofs.Ytkfajafofjpjfaa
/- THE CELL 'sum', in the pinned program and in every row, IS THE sha256 OF THE DUMP (.gsa) THAT YtkfajafofjpjfaaProg.lean LOADS. Nothing in Lean hashes anything: it is a label: what it is worth is what the hold of that sum in a sandbox is worth. -/
noncomputable def Try.pinned : Pinned := { name := "ytkfajafofjpjfaa", sum := "8953f90f6880b34ad463b4b458c6b84a932154bb243c5beb4b010898e4802986", checked := Try.checked }
namespace Rows
def none {H : Type} : Left H := { results := [], args := [] }

/-- 'glebelaw26.OwnerWay': WHATEVER THE INPUT: true; the input reads as it did. -/
def ownerWaySpec : ChangeSpec := { name := "ownerWay", fn := fun _ => fun
  | [d1, d2, d3] => { results := [.lit (.bool true)], args := [d1, d2, d3] }
  | _ => none }
def ownerWayRow : OpenClaim := { program := "ytkfajafofjpjfaa", sum := "8953f90f6880b34ad463b4b458c6b84a932154bb243c5beb4b010898e4802986", func := "glebe/glebelaw26.OwnerWay", spec := "ownerWay", unfollowed := true, recurses := true, plainKeys := false, apart := false }
def OwnerWaySaid : Prop := ownerWayRow.holds Try.pinned (OpenSpec.ofChange ownerWaySpec)

/-- ITS FALSE NEIGHBOUR: 'it returns false'. Refute it at one input. -/
def ownerWayWrong : ChangeSpec := { name := "ownerWay", fn := fun _ => fun
  | [d1, d2, d3] => { results := [.lit (.bool false)], args := [d1, d2, d3] }
  | _ => none }
def OwnerWayWrongFalsely : Prop := ownerWayRow.holds Try.pinned (OpenSpec.ofChange ownerWayWrong)

/-- 'glebelaw26.OwnerNil': WHATEVER THE INPUT: true; the input reads as it did. -/
def ownerNilSpec : ChangeSpec := { name := "ownerNil", fn := fun _ => fun
  | [d1, d2] => { results := [.lit (.bool true)], args := [d1, d2] }
  | _ => none }
def ownerNilRow : OpenClaim := { program := "ytkfajafofjpjfaa", sum := "8953f90f6880b34ad463b4b458c6b84a932154bb243c5beb4b010898e4802986", func := "glebe/glebelaw26.OwnerNil", spec := "ownerNil", inPlace := ["maps.clone"], unfollowed := true, recurses := true, plainKeys := false, apart := false }
def OwnerNilSaid : Prop := ownerNilRow.holds Try.pinned (OpenSpec.ofChange ownerNilSpec)

/-- ITS FALSE NEIGHBOUR: 'it returns false'. Refute it at one input. -/
def ownerNilWrong : ChangeSpec := { name := "ownerNil", fn := fun _ => fun
  | [d1, d2] => { results := [.lit (.bool false)], args := [d1, d2] }
  | _ => none }
def OwnerNilWrongFalsely : Prop := ownerNilRow.holds Try.pinned (OpenSpec.ofChange ownerNilWrong)

/- THE SECOND FORM. 'bulk': how many values and letters a reading holds, each counted each time it is reached (what is shared counts as often as it is met; a slice's spare places count too). A statement '..UptoSaid' is the law's where the arguments, and the package variables that the reading takes, are together of bulk at most 1048576: NARROWER than '..Said'. Prove '..Said' where nothing that the law and all that it calls make is longer than what came in: it says more and counts as full. Else prove '..UptoSaid'. A law counts once. -/
mutual
def uptoBulk {H : Type} : DataW H → Nat
  | .lit (.string bytes) => bytes.length + 1
  | .lit _ => 1
  | .nil => 1
  | .ptr d => uptoBulk d + 1
  | .slice elems spare => uptoBulkAll elems + uptoBulkAll spare + 1
  | .agg parts => uptoBulkAll parts + 1
  | .iface _ d => uptoBulk d + 1
  | .map entries => uptoBulkEntries entries + 1
  | .held _ => 1
def uptoBulkAll {H : Type} : List (DataW H) → Nat
  | [] => 0
  | d :: r => uptoBulk d + uptoBulkAll r
def uptoBulkEntries {H : Type} : List (Lit × DataW H) → Nat
  | [] => 0
  | x :: r => uptoBulkEntry x + uptoBulkEntries r
def uptoBulkEntry {H : Type} : Lit × DataW H → Nat
  | (.string bytes, d) => bytes.length + uptoBulk d + 1
  | (_, d) => uptoBulk d + 1
 end
def uptoSmall : (H : Type) → List (DataW H) → Bool := fun _ ds => decide (uptoBulkAll ds ≤ 1048576)
def OpenSpec.upto (s : _root_.Go.ChangeSpec) : _root_.Go.OpenSpec := { _root_.Go.OpenSpec.ofChange s with cond := some uptoSmall }

/-- 'glebelaw26.OwnerWay', WHERE WHAT IT READS IS OF BULK AT MOST 1048576: true; the input reads as it did. -/
def ownerWayUptoRow : OpenClaim := { program := "ytkfajafofjpjfaa", sum := "8953f90f6880b34ad463b4b458c6b84a932154bb243c5beb4b010898e4802986", func := "glebe/glebelaw26.OwnerWay", spec := "ownerWay", unfollowed := true, recurses := true, plainKeys := false, apart := false, narrowed := true }
def OwnerWayUptoSaid : Prop := ownerWayUptoRow.holds Try.pinned (OpenSpec.upto ownerWaySpec)

/-- 'glebelaw26.OwnerNil', WHERE WHAT IT READS IS OF BULK AT MOST 1048576: true; the input reads as it did. -/
def ownerNilUptoRow : OpenClaim := { program := "ytkfajafofjpjfaa", sum := "8953f90f6880b34ad463b4b458c6b84a932154bb243c5beb4b010898e4802986", func := "glebe/glebelaw26.OwnerNil", spec := "ownerNil", inPlace := ["maps.clone"], unfollowed := true, recurses := true, plainKeys := false, apart := false, narrowed := true }
def OwnerNilUptoSaid : Prop := ownerNilUptoRow.holds Try.pinned (OpenSpec.upto ownerNilSpec)

end Rows
end Go.Proofs.Ytkfajafofjpjfaa
