/-
  No cell of these rows narrows 'for every input' (looked for: loops, veiled, ifaces, maps, wideKeys, modest, calm, conditions, laid).
  DERIVED. THE GIVEN ROWS OF THIS SEAT. 6 by the template 'for every input the law returns true; each argument reads behind the call as it read before'; 0 by the template 'total and deterministic' (their statements: YtefjnofhgkjpmaaGreatTotals.lean).
  GIVEN WITH THE SEED: the statements are not yours to turn. If you find one false, say at which input.
  Laid BY PROGRAM, IN A SANDBOX (cutbox-rows.mjs): the forced cells as the released guide's own fill.sh prints them over the translation e5b1126af91b1878… (all of the seat's roots in one cut). By AI agents, Wed Nov 11 2026. No macro, syntax, notation, axiom, sorry.
-/
import Derived.Test.YtefjnofhgkjpmaaGreatChecked
import GoSem.Claim
import GoSem.ClaimJoined
import GoSem.ClaimMapViews
import Derived.JoinedTies
import Derived.KernelRfl
namespace Go.Proofs.YtefjnofhgkjpmaaGreat
/- THE CELL 'sum', in the pinned program and in every row, IS THE sha256 OF THE DUMP (.gsa) THAT YtefjnofhgkjpmaaGreatProg.lean LOADS. Nothing in Lean hashes anything: it is a label: what it is worth is what the hold of that sum in a sandbox is worth. -/
noncomputable def Tryz.pinned : Pinned := { name := "ytefjnofhgkjpmaagreat", sum := "e5b1126af91b18780850f67712a87e962e4264b9c7004f51d918defae7babd95", checked := Tryz.checked }
namespace Rows
def none {H : Type} : Left H := { results := [], args := [] }

/-- 'bellowslaw12.PressWrites': WHATEVER THE INPUT: true; the input reads as it did. -/
def pressWritesSpec : ChangeSpec := { name := "pressWrites", fn := fun _ => fun
  | [d1, d2, d3] => { results := [.lit (.bool true)], args := [d1, d2, d3] }
  | _ => none }
def pressWritesRow : OpenClaim := { program := "ytefjnofhgkjpmaagreat", sum := "e5b1126af91b18780850f67712a87e962e4264b9c7004f51d918defae7babd95", func := "bellows/bellowslaw12.PressWrites", spec := "pressWrites", unfollowed := true, recurses := true, apart := false }
def PressWritesSaid : Prop := pressWritesRow.holds Tryz.pinned (OpenSpec.ofChange pressWritesSpec)

/-- ITS FALSE NEIGHBOUR: 'it returns false'. Refute it at one input. -/
def pressWritesWrong : ChangeSpec := { name := "pressWrites", fn := fun _ => fun
  | [d1, d2, d3] => { results := [.lit (.bool false)], args := [d1, d2, d3] }
  | _ => none }
def PressWritesWrongFalsely : Prop := pressWritesRow.holds Tryz.pinned (OpenSpec.ofChange pressWritesWrong)

/-- 'bellowslaw12.PressEnds': WHATEVER THE INPUT: true; the input reads as it did. -/
def pressEndsSpec : ChangeSpec := { name := "pressEnds", fn := fun _ => fun
  | [d] => { results := [.lit (.bool true)], args := [d] }
  | _ => none }
def pressEndsRow : OpenClaim := { program := "ytefjnofhgkjpmaagreat", sum := "e5b1126af91b18780850f67712a87e962e4264b9c7004f51d918defae7babd95", func := "bellows/bellowslaw12.PressEnds", spec := "pressEnds", unfollowed := true, recurses := true, apart := false }
def PressEndsSaid : Prop := pressEndsRow.holds Tryz.pinned (OpenSpec.ofChange pressEndsSpec)

/-- ITS FALSE NEIGHBOUR: 'it returns false'. Refute it at one input. -/
def pressEndsWrong : ChangeSpec := { name := "pressEnds", fn := fun _ => fun
  | [d] => { results := [.lit (.bool false)], args := [d] }
  | _ => none }
def PressEndsWrongFalsely : Prop := pressEndsRow.holds Tryz.pinned (OpenSpec.ofChange pressEndsWrong)

/-- 'bellowslaw12.PressNames': WHATEVER THE INPUT: true; the input reads as it did. -/
def pressNamesSpec : ChangeSpec := { name := "pressNames", fn := fun _ => fun
  | [] => { results := [.lit (.bool true)], args := [] }
  | _ => none }
def pressNamesRow : OpenClaim := { program := "ytefjnofhgkjpmaagreat", sum := "e5b1126af91b18780850f67712a87e962e4264b9c7004f51d918defae7babd95", func := "bellows/bellowslaw12.PressNames", spec := "pressNames", unfollowed := true, recurses := true, apart := false }
def PressNamesSaid : Prop := pressNamesRow.holds Tryz.pinned (OpenSpec.ofChange pressNamesSpec)

/-- ITS FALSE NEIGHBOUR: 'it returns false'. Refute it at one input. -/
def pressNamesWrong : ChangeSpec := { name := "pressNames", fn := fun _ => fun
  | [] => { results := [.lit (.bool false)], args := [] }
  | _ => none }
def PressNamesWrongFalsely : Prop := pressNamesRow.holds Tryz.pinned (OpenSpec.ofChange pressNamesWrong)

/-- 'bellowslaw12.PressSize': WHATEVER THE INPUT: true; the input reads as it did. -/
def pressSizeSpec : ChangeSpec := { name := "pressSize", fn := fun _ => fun
  | [d1, d2] => { results := [.lit (.bool true)], args := [d1, d2] }
  | _ => none }
def pressSizeRow : OpenClaim := { program := "ytefjnofhgkjpmaagreat", sum := "e5b1126af91b18780850f67712a87e962e4264b9c7004f51d918defae7babd95", func := "bellows/bellowslaw12.PressSize", spec := "pressSize", unfollowed := true, recurses := true, apart := false }
def PressSizeSaid : Prop := pressSizeRow.holds Tryz.pinned (OpenSpec.ofChange pressSizeSpec)

/-- ITS FALSE NEIGHBOUR: 'it returns false'. Refute it at one input. -/
def pressSizeWrong : ChangeSpec := { name := "pressSize", fn := fun _ => fun
  | [d1, d2] => { results := [.lit (.bool false)], args := [d1, d2] }
  | _ => none }
def PressSizeWrongFalsely : Prop := pressSizeRow.holds Tryz.pinned (OpenSpec.ofChange pressSizeWrong)

/-- 'bellowslaw12.PressAgain': WHATEVER THE INPUT: true; the input reads as it did. -/
def pressAgainSpec : ChangeSpec := { name := "pressAgain", fn := fun _ => fun
  | [d] => { results := [.lit (.bool true)], args := [d] }
  | _ => none }
def pressAgainRow : OpenClaim := { program := "ytefjnofhgkjpmaagreat", sum := "e5b1126af91b18780850f67712a87e962e4264b9c7004f51d918defae7babd95", func := "bellows/bellowslaw12.PressAgain", spec := "pressAgain", unfollowed := true, recurses := true, apart := false }
def PressAgainSaid : Prop := pressAgainRow.holds Tryz.pinned (OpenSpec.ofChange pressAgainSpec)

/-- ITS FALSE NEIGHBOUR: 'it returns false'. Refute it at one input. -/
def pressAgainWrong : ChangeSpec := { name := "pressAgain", fn := fun _ => fun
  | [d] => { results := [.lit (.bool false)], args := [d] }
  | _ => none }
def PressAgainWrongFalsely : Prop := pressAgainRow.holds Tryz.pinned (OpenSpec.ofChange pressAgainWrong)

/-- 'bellowslaw13.PlainBack': WHATEVER THE INPUT: true; the input reads as it did. -/
def plainBackSpec : ChangeSpec := { name := "plainBack", fn := fun _ => fun
  | [d1, d2, d3, d4] => { results := [.lit (.bool true)], args := [d1, d2, d3, d4] }
  | _ => none }
def plainBackRow : OpenClaim := { program := "ytefjnofhgkjpmaagreat", sum := "e5b1126af91b18780850f67712a87e962e4264b9c7004f51d918defae7babd95", func := "bellows/bellowslaw13.PlainBack", spec := "plainBack", unfollowed := true, recurses := true, apart := false }
def PlainBackSaid : Prop := plainBackRow.holds Tryz.pinned (OpenSpec.ofChange plainBackSpec)

/-- ITS FALSE NEIGHBOUR: 'it returns false'. Refute it at one input. -/
def plainBackWrong : ChangeSpec := { name := "plainBack", fn := fun _ => fun
  | [d1, d2, d3, d4] => { results := [.lit (.bool false)], args := [d1, d2, d3, d4] }
  | _ => none }
def PlainBackWrongFalsely : Prop := plainBackRow.holds Tryz.pinned (OpenSpec.ofChange plainBackWrong)

/- THE SECOND FORM. 'bulk': how many values and letters a reading holds, each counted each time it is reached (what is shared counts as often as it is met; a slice's spare places count too). A statement '..UptoSaid' is the law's where the arguments, and the package variables that the reading takes, are together of bulk at most 1048576: NARROWER than '..Said'. Prove '..Said' where nothing that the law and all that it calls make is longer than what came in: it says more and counts as full. Else prove '..UptoSaid'. A law counts once. -/
mutual
def uptoBulk {H : Type} : DataW H → Nat
  | .lit (.string bytes) => bytes.length + 1
  | .lit _ => 1
  | .nil => 1
  | .ptr d => uptoBulk d + 1
  | .slice elems spare => uptoBulkAll elems + uptoBulkAll spare + 1
  | .agg parts => uptoBulkAll parts + 1
  | .iface _ d => uptoBulk d + 1
  | .map entries => uptoBulkEntries entries + 1
  | .held _ => 1
def uptoBulkAll {H : Type} : List (DataW H) → Nat
  | [] => 0
  | d :: r => uptoBulk d + uptoBulkAll r
def uptoBulkEntries {H : Type} : List (Lit × DataW H) → Nat
  | [] => 0
  | x :: r => uptoBulkEntry x + uptoBulkEntries r
def uptoBulkEntry {H : Type} : Lit × DataW H → Nat
  | (.string bytes, d) => bytes.length + uptoBulk d + 1
  | (_, d) => uptoBulk d + 1
 end
def uptoSmall : (H : Type) → List (DataW H) → Bool := fun _ ds => decide (uptoBulkAll ds ≤ 1048576)
def OpenSpec.upto (s : _root_.Go.ChangeSpec) : _root_.Go.OpenSpec := { _root_.Go.OpenSpec.ofChange s with cond := some uptoSmall }

/-- 'bellowslaw12.PressWrites', WHERE WHAT IT READS IS OF BULK AT MOST 1048576: true; the input reads as it did. -/
def pressWritesUptoRow : OpenClaim := { program := "ytefjnofhgkjpmaagreat", sum := "e5b1126af91b18780850f67712a87e962e4264b9c7004f51d918defae7babd95", func := "bellows/bellowslaw12.PressWrites", spec := "pressWrites", unfollowed := true, recurses := true, apart := false, narrowed := true }
def PressWritesUptoSaid : Prop := pressWritesUptoRow.holds Tryz.pinned (OpenSpec.upto pressWritesSpec)

/-- 'bellowslaw12.PressEnds', WHERE WHAT IT READS IS OF BULK AT MOST 1048576: true; the input reads as it did. -/
def pressEndsUptoRow : OpenClaim := { program := "ytefjnofhgkjpmaagreat", sum := "e5b1126af91b18780850f67712a87e962e4264b9c7004f51d918defae7babd95", func := "bellows/bellowslaw12.PressEnds", spec := "pressEnds", unfollowed := true, recurses := true, apart := false, narrowed := true }
def PressEndsUptoSaid : Prop := pressEndsUptoRow.holds Tryz.pinned (OpenSpec.upto pressEndsSpec)

/-- 'bellowslaw12.PressNames', WHERE WHAT IT READS IS OF BULK AT MOST 1048576: true; the input reads as it did. -/
def pressNamesUptoRow : OpenClaim := { program := "ytefjnofhgkjpmaagreat", sum := "e5b1126af91b18780850f67712a87e962e4264b9c7004f51d918defae7babd95", func := "bellows/bellowslaw12.PressNames", spec := "pressNames", unfollowed := true, recurses := true, apart := false, narrowed := true }
def PressNamesUptoSaid : Prop := pressNamesUptoRow.holds Tryz.pinned (OpenSpec.upto pressNamesSpec)

/-- 'bellowslaw12.PressSize', WHERE WHAT IT READS IS OF BULK AT MOST 1048576: true; the input reads as it did. -/
def pressSizeUptoRow : OpenClaim := { program := "ytefjnofhgkjpmaagreat", sum := "e5b1126af91b18780850f67712a87e962e4264b9c7004f51d918defae7babd95", func := "bellows/bellowslaw12.PressSize", spec := "pressSize", unfollowed := true, recurses := true, apart := false, narrowed := true }
def PressSizeUptoSaid : Prop := pressSizeUptoRow.holds Tryz.pinned (OpenSpec.upto pressSizeSpec)

/-- 'bellowslaw12.PressAgain', WHERE WHAT IT READS IS OF BULK AT MOST 1048576: true; the input reads as it did. -/
def pressAgainUptoRow : OpenClaim := { program := "ytefjnofhgkjpmaagreat", sum := "e5b1126af91b18780850f67712a87e962e4264b9c7004f51d918defae7babd95", func := "bellows/bellowslaw12.PressAgain", spec := "pressAgain", unfollowed := true, recurses := true, apart := false, narrowed := true }
def PressAgainUptoSaid : Prop := pressAgainUptoRow.holds Tryz.pinned (OpenSpec.upto pressAgainSpec)

/-- 'bellowslaw13.PlainBack', WHERE WHAT IT READS IS OF BULK AT MOST 1048576: true; the input reads as it did. -/
def plainBackUptoRow : OpenClaim := { program := "ytefjnofhgkjpmaagreat", sum := "e5b1126af91b18780850f67712a87e962e4264b9c7004f51d918defae7babd95", func := "bellows/bellowslaw13.PlainBack", spec := "plainBack", unfollowed := true, recurses := true, apart := false, narrowed := true }
def PlainBackUptoSaid : Prop := plainBackUptoRow.holds Tryz.pinned (OpenSpec.upto plainBackSpec)

end Rows
end Go.Proofs.YtefjnofhgkjpmaaGreat
