/-
  No cell of these rows narrows 'for every input' (looked for: loops, veiled, ifaces, maps, wideKeys, modest, calm, conditions, laid).
  DERIVED. THE GIVEN ROWS OF THIS SEAT. 4 by the template 'for every input the law returns true; each argument reads behind the call as it read before'; 0 by the template 'total and deterministic' (their statements: YtgahbmcibocclaaGreatTotals.lean).
  GIVEN WITH THE SEED: the statements are not yours to turn. If you find one false, say at which input.
  Laid BY PROGRAM, IN A SANDBOX (cutbox-rows.mjs): the forced cells as the released guide's own fill.sh prints them over the translation 55efa7ca6e1cc49b… (all of the seat's roots in one cut). By AI agents, Wed Nov 11 2026. No macro, syntax, notation, axiom, sorry.
-/
import Derived.Test.YtgahbmcibocclaaGreatChecked
import GoSem.Claim
import GoSem.ClaimJoined
import GoSem.ClaimMapViews
import Derived.JoinedTies
import Derived.KernelRfl
namespace Go.Proofs.YtgahbmcibocclaaGreat
/- THE CELL 'sum', in the pinned program and in every row, IS THE sha256 OF THE DUMP (.gsa) THAT YtgahbmcibocclaaGreatProg.lean LOADS. Nothing in Lean hashes anything: it is a label: what it is worth is what the hold of that sum in a sandbox is worth. -/
noncomputable def Tryz.pinned : Pinned := { name := "ytgahbmcibocclaagreat", sum := "55efa7ca6e1cc49b61f21cf4be39e56db3bcfad06864620be94c0b425eb2a871", checked := Tryz.checked }
namespace Rows
def none {H : Type} : Left H := { results := [], args := [] }

/-- 'glebelaw15.RouteBad': WHATEVER THE INPUT: true; the input reads as it did. -/
def routeBadSpec : ChangeSpec := { name := "routeBad", fn := fun _ => fun
  | [d1, d2, d3, d4, d5] => { results := [.lit (.bool true)], args := [d1, d2, d3, d4, d5] }
  | _ => none }
def routeBadRow : OpenClaim := { program := "ytgahbmcibocclaagreat", sum := "55efa7ca6e1cc49b61f21cf4be39e56db3bcfad06864620be94c0b425eb2a871", func := "glebe/glebelaw15.RouteBad", spec := "routeBad", unfollowed := true, recurses := true, plainKeys := false, apart := false }
def RouteBadSaid : Prop := routeBadRow.holds Tryz.pinned (OpenSpec.ofChange routeBadSpec)

/-- ITS FALSE NEIGHBOUR: 'it returns false'. Refute it at one input. -/
def routeBadWrong : ChangeSpec := { name := "routeBad", fn := fun _ => fun
  | [d1, d2, d3, d4, d5] => { results := [.lit (.bool false)], args := [d1, d2, d3, d4, d5] }
  | _ => none }
def RouteBadWrongFalsely : Prop := routeBadRow.holds Tryz.pinned (OpenSpec.ofChange routeBadWrong)

/-- 'glebelaw15.RouteNil': WHATEVER THE INPUT: true; the input reads as it did. -/
def routeNilSpec : ChangeSpec := { name := "routeNil", fn := fun _ => fun
  | [d1, d2] => { results := [.lit (.bool true)], args := [d1, d2] }
  | _ => none }
def routeNilRow : OpenClaim := { program := "ytgahbmcibocclaagreat", sum := "55efa7ca6e1cc49b61f21cf4be39e56db3bcfad06864620be94c0b425eb2a871", func := "glebe/glebelaw15.RouteNil", spec := "routeNil", unfollowed := true, recurses := true, plainKeys := false, apart := false }
def RouteNilSaid : Prop := routeNilRow.holds Tryz.pinned (OpenSpec.ofChange routeNilSpec)

/-- ITS FALSE NEIGHBOUR: 'it returns false'. Refute it at one input. -/
def routeNilWrong : ChangeSpec := { name := "routeNil", fn := fun _ => fun
  | [d1, d2] => { results := [.lit (.bool false)], args := [d1, d2] }
  | _ => none }
def RouteNilWrongFalsely : Prop := routeNilRow.holds Tryz.pinned (OpenSpec.ofChange routeNilWrong)

/-- 'glebelaw15.RoutePlays': WHATEVER THE INPUT: true; the input reads as it did. -/
def routePlaysSpec : ChangeSpec := { name := "routePlays", fn := fun _ => fun
  | [d1, d2, d3, d4, d5, d6, d7] => { results := [.lit (.bool true)], args := [d1, d2, d3, d4, d5, d6, d7] }
  | _ => none }
def routePlaysRow : OpenClaim := { program := "ytgahbmcibocclaagreat", sum := "55efa7ca6e1cc49b61f21cf4be39e56db3bcfad06864620be94c0b425eb2a871", func := "glebe/glebelaw15.RoutePlays", spec := "routePlays", unfollowed := true, recurses := true, plainKeys := false, apart := false }
def RoutePlaysSaid : Prop := routePlaysRow.holds Tryz.pinned (OpenSpec.ofChange routePlaysSpec)

/-- ITS FALSE NEIGHBOUR: 'it returns false'. Refute it at one input. -/
def routePlaysWrong : ChangeSpec := { name := "routePlays", fn := fun _ => fun
  | [d1, d2, d3, d4, d5, d6, d7] => { results := [.lit (.bool false)], args := [d1, d2, d3, d4, d5, d6, d7] }
  | _ => none }
def RoutePlaysWrongFalsely : Prop := routePlaysRow.holds Tryz.pinned (OpenSpec.ofChange routePlaysWrong)

/-- 'glebelaw15.RouteNearer': WHATEVER THE INPUT: true; the input reads as it did. -/
def routeNearerSpec : ChangeSpec := { name := "routeNearer", fn := fun _ => fun
  | [d1, d2, d3, d4] => { results := [.lit (.bool true)], args := [d1, d2, d3, d4] }
  | _ => none }
def routeNearerRow : OpenClaim := { program := "ytgahbmcibocclaagreat", sum := "55efa7ca6e1cc49b61f21cf4be39e56db3bcfad06864620be94c0b425eb2a871", func := "glebe/glebelaw15.RouteNearer", spec := "routeNearer", unfollowed := true, recurses := true, plainKeys := false, apart := false }
def RouteNearerSaid : Prop := routeNearerRow.holds Tryz.pinned (OpenSpec.ofChange routeNearerSpec)

/-- ITS FALSE NEIGHBOUR: 'it returns false'. Refute it at one input. -/
def routeNearerWrong : ChangeSpec := { name := "routeNearer", fn := fun _ => fun
  | [d1, d2, d3, d4] => { results := [.lit (.bool false)], args := [d1, d2, d3, d4] }
  | _ => none }
def RouteNearerWrongFalsely : Prop := routeNearerRow.holds Tryz.pinned (OpenSpec.ofChange routeNearerWrong)

/- THE SECOND FORM. 'bulk': how many values and letters a reading holds, each counted each time it is reached (what is shared counts as often as it is met; a slice's spare places count too). A statement '..UptoSaid' is the law's where the arguments, and the package variables that the reading takes, are together of bulk at most 1048576: NARROWER than '..Said'. Prove '..Said' where nothing that the law and all that it calls make is longer than what came in: it says more and counts as full. Else prove '..UptoSaid'. A law counts once. -/
mutual
def uptoBulk {H : Type} : DataW H → Nat
  | .lit (.string bytes) => bytes.length + 1
  | .lit _ => 1
  | .nil => 1
  | .ptr d => uptoBulk d + 1
  | .slice elems spare => uptoBulkAll elems + uptoBulkAll spare + 1
  | .agg parts => uptoBulkAll parts + 1
  | .iface _ d => uptoBulk d + 1
  | .map entries => uptoBulkEntries entries + 1
  | .held _ => 1
def uptoBulkAll {H : Type} : List (DataW H) → Nat
  | [] => 0
  | d :: r => uptoBulk d + uptoBulkAll r
def uptoBulkEntries {H : Type} : List (Lit × DataW H) → Nat
  | [] => 0
  | x :: r => uptoBulkEntry x + uptoBulkEntries r
def uptoBulkEntry {H : Type} : Lit × DataW H → Nat
  | (.string bytes, d) => bytes.length + uptoBulk d + 1
  | (_, d) => uptoBulk d + 1
 end
def uptoSmall : (H : Type) → List (DataW H) → Bool := fun _ ds => decide (uptoBulkAll ds ≤ 1048576)
def OpenSpec.upto (s : _root_.Go.ChangeSpec) : _root_.Go.OpenSpec := { _root_.Go.OpenSpec.ofChange s with cond := some uptoSmall }

/-- 'glebelaw15.RouteBad', WHERE WHAT IT READS IS OF BULK AT MOST 1048576: true; the input reads as it did. -/
def routeBadUptoRow : OpenClaim := { program := "ytgahbmcibocclaagreat", sum := "55efa7ca6e1cc49b61f21cf4be39e56db3bcfad06864620be94c0b425eb2a871", func := "glebe/glebelaw15.RouteBad", spec := "routeBad", unfollowed := true, recurses := true, plainKeys := false, apart := false, narrowed := true }
def RouteBadUptoSaid : Prop := routeBadUptoRow.holds Tryz.pinned (OpenSpec.upto routeBadSpec)

/-- 'glebelaw15.RouteNil', WHERE WHAT IT READS IS OF BULK AT MOST 1048576: true; the input reads as it did. -/
def routeNilUptoRow : OpenClaim := { program := "ytgahbmcibocclaagreat", sum := "55efa7ca6e1cc49b61f21cf4be39e56db3bcfad06864620be94c0b425eb2a871", func := "glebe/glebelaw15.RouteNil", spec := "routeNil", unfollowed := true, recurses := true, plainKeys := false, apart := false, narrowed := true }
def RouteNilUptoSaid : Prop := routeNilUptoRow.holds Tryz.pinned (OpenSpec.upto routeNilSpec)

/-- 'glebelaw15.RoutePlays', WHERE WHAT IT READS IS OF BULK AT MOST 1048576: true; the input reads as it did. -/
def routePlaysUptoRow : OpenClaim := { program := "ytgahbmcibocclaagreat", sum := "55efa7ca6e1cc49b61f21cf4be39e56db3bcfad06864620be94c0b425eb2a871", func := "glebe/glebelaw15.RoutePlays", spec := "routePlays", unfollowed := true, recurses := true, plainKeys := false, apart := false, narrowed := true }
def RoutePlaysUptoSaid : Prop := routePlaysUptoRow.holds Tryz.pinned (OpenSpec.upto routePlaysSpec)

/-- 'glebelaw15.RouteNearer', WHERE WHAT IT READS IS OF BULK AT MOST 1048576: true; the input reads as it did. -/
def routeNearerUptoRow : OpenClaim := { program := "ytgahbmcibocclaagreat", sum := "55efa7ca6e1cc49b61f21cf4be39e56db3bcfad06864620be94c0b425eb2a871", func := "glebe/glebelaw15.RouteNearer", spec := "routeNearer", unfollowed := true, recurses := true, plainKeys := false, apart := false, narrowed := true }
def RouteNearerUptoSaid : Prop := routeNearerUptoRow.holds Tryz.pinned (OpenSpec.upto routeNearerSpec)

end Rows
end Go.Proofs.YtgahbmcibocclaaGreat
