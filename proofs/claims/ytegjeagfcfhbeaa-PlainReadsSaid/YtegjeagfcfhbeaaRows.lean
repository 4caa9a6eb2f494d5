/-
  No cell of these rows narrows 'for every input' (looked for: loops, veiled, ifaces, maps, wideKeys, modest, calm, conditions, laid).
  DERIVED. THE GIVEN ROWS OF THIS SEAT. 6 by the template 'for every input the law returns true; each argument reads behind the call as it read before'; 0 by the template 'total and deterministic' (their statements: YtegjeagfcfhbeaaTotals.lean).
  GIVEN WITH THE SEED: the statements are not yours to turn. If you find one false, say at which input.
  Laid BY PROGRAM, IN A SANDBOX (cutbox-rows.mjs): the forced cells as the released guide's own fill.sh prints them over the translation 3f972d28ce86e580… (all of the seat's roots in one cut). By AI agents, Wed Nov 11 2026. No macro, syntax, notation, axiom, sorry.
-/
import Derived.Test.YtegjeagfcfhbeaaChecked
import GoSem.Claim
import GoSem.ClaimJoined
import GoSem.ClaimMapViews
import Derived.JoinedTies
import Derived.KernelRfl
namespace Go.Proofs.Ytegjeagfcfhbeaa
/- THE CELL 'sum', in the pinned program and in every row, IS THE sha256 OF THE DUMP (.gsa) THAT YtegjeagfcfhbeaaProg.lean LOADS. Nothing in Lean hashes anything: it is a label: what it is worth is what the hold of that sum in a sandbox is worth. -/
noncomputable def Try.pinned : Pinned := { name := "ytegjeagfcfhbeaa", sum := "3f972d28ce86e580a16d7eb59a9a5cfbecc667da8ef0a0963d92ebc906c6f95d", checked := Try.checked }
namespace Rows
def none {H : Type} : Left H := { results := [], args := [] }

/-- 'bellowslaw13.PlainReads': WHATEVER THE INPUT: true; the input reads as it did. -/
def plainReadsSpec : ChangeSpec := { name := "plainReads", fn := fun _ => fun
  | [d1, d2, d3] => { results := [.lit (.bool true)], args := [d1, d2, d3] }
  | _ => none }
def plainReadsRow : OpenClaim := { program := "ytegjeagfcfhbeaa", sum := "3f972d28ce86e580a16d7eb59a9a5cfbecc667da8ef0a0963d92ebc906c6f95d", func := "bellows/bellowslaw13.PlainReads", spec := "plainReads", unfollowed := true, recurses := true, apart := false }
def PlainReadsSaid : Prop := plainReadsRow.holds Try.pinned (OpenSpec.ofChange plainReadsSpec)

/-- ITS FALSE NEIGHBOUR: 'it returns false'. Refute it at one input. -/
def plainReadsWrong : ChangeSpec := { name := "plainReads", fn := fun _ => fun
  | [d1, d2, d3] => { results := [.lit (.bool false)], args := [d1, d2, d3] }
  | _ => none }
def PlainReadsWrongFalsely : Prop := plainReadsRow.holds Try.pinned (OpenSpec.ofChange plainReadsWrong)

/-- 'bellowslaw13.PlainLimit': WHATEVER THE INPUT: true; the input reads as it did. -/
def plainLimitSpec : ChangeSpec := { name := "plainLimit", fn := fun _ => fun
  | [d1, d2, d3, d4] => { results := [.lit (.bool true)], args := [d1, d2, d3, d4] }
  | _ => none }
def plainLimitRow : OpenClaim := { program := "ytegjeagfcfhbeaa", sum := "3f972d28ce86e580a16d7eb59a9a5cfbecc667da8ef0a0963d92ebc906c6f95d", func := "bellows/bellowslaw13.PlainLimit", spec := "plainLimit", unfollowed := true, recurses := true, apart := false }
def PlainLimitSaid : Prop := plainLimitRow.holds Try.pinned (OpenSpec.ofChange plainLimitSpec)

/-- ITS FALSE NEIGHBOUR: 'it returns false'. Refute it at one input. -/
def plainLimitWrong : ChangeSpec := { name := "plainLimit", fn := fun _ => fun
  | [d1, d2, d3, d4] => { results := [.lit (.bool false)], args := [d1, d2, d3, d4] }
  | _ => none }
def PlainLimitWrongFalsely : Prop := plainLimitRow.holds Try.pinned (OpenSpec.ofChange plainLimitWrong)

/-- 'bellowslaw13.PlainTells': WHATEVER THE INPUT: true; the input reads as it did. -/
def plainTellsSpec : ChangeSpec := { name := "plainTells", fn := fun _ => fun
  | [d1, d2, d3] => { results := [.lit (.bool true)], args := [d1, d2, d3] }
  | _ => none }
def plainTellsRow : OpenClaim := { program := "ytegjeagfcfhbeaa", sum := "3f972d28ce86e580a16d7eb59a9a5cfbecc667da8ef0a0963d92ebc906c6f95d", func := "bellows/bellowslaw13.PlainTells", spec := "plainTells", unfollowed := true, recurses := true, apart := false }
def PlainTellsSaid : Prop := plainTellsRow.holds Try.pinned (OpenSpec.ofChange plainTellsSpec)

/-- ITS FALSE NEIGHBOUR: 'it returns false'. Refute it at one input. -/
def plainTellsWrong : ChangeSpec := { name := "plainTells", fn := fun _ => fun
  | [d1, d2, d3] => { results := [.lit (.bool false)], args := [d1, d2, d3] }
  | _ => none }
def PlainTellsWrongFalsely : Prop := plainTellsRow.holds Try.pinned (OpenSpec.ofChange plainTellsWrong)

/-- 'bellowslaw13.PlainBegins': WHATEVER THE INPUT: true; the input reads as it did. -/
def plainBeginsSpec : ChangeSpec := { name := "plainBegins", fn := fun _ => fun
  | [d1, d2, d3] => { results := [.lit (.bool true)], args := [d1, d2, d3] }
  | _ => none }
def plainBeginsRow : OpenClaim := { program := "ytegjeagfcfhbeaa", sum := "3f972d28ce86e580a16d7eb59a9a5cfbecc667da8ef0a0963d92ebc906c6f95d", func := "bellows/bellowslaw13.PlainBegins", spec := "plainBegins", unfollowed := true, recurses := true, apart := false }
def PlainBeginsSaid : Prop := plainBeginsRow.holds Try.pinned (OpenSpec.ofChange plainBeginsSpec)

/-- ITS FALSE NEIGHBOUR: 'it returns false'. Refute it at one input. -/
def plainBeginsWrong : ChangeSpec := { name := "plainBegins", fn := fun _ => fun
  | [d1, d2, d3] => { results := [.lit (.bool false)], args := [d1, d2, d3] }
  | _ => none }
def PlainBeginsWrongFalsely : Prop := plainBeginsRow.holds Try.pinned (OpenSpec.ofChange plainBeginsWrong)

/-- 'bellowslaw13.PlainNames': WHATEVER THE INPUT: true; the input reads as it did. -/
def plainNamesSpec : ChangeSpec := { name := "plainNames", fn := fun _ => fun
  | [] => { results := [.lit (.bool true)], args := [] }
  | _ => none }
def plainNamesRow : OpenClaim := { program := "ytegjeagfcfhbeaa", sum := "3f972d28ce86e580a16d7eb59a9a5cfbecc667da8ef0a0963d92ebc906c6f95d", func := "bellows/bellowslaw13.PlainNames", spec := "plainNames", unfollowed := true, recurses := true, apart := false }
def PlainNamesSaid : Prop := plainNamesRow.holds Try.pinned (OpenSpec.ofChange plainNamesSpec)

/-- ITS FALSE NEIGHBOUR: 'it returns false'. Refute it at one input. -/
def plainNamesWrong : ChangeSpec := { name := "plainNames", fn := fun _ => fun
  | [] => { results := [.lit (.bool false)], args := [] }
  | _ => none }
def PlainNamesWrongFalsely : Prop := plainNamesRow.holds Try.pinned (OpenSpec.ofChange plainNamesWrong)

/-- 'bellowslaw13.PlainBlocks': WHATEVER THE INPUT: true; the input reads as it did. -/
def plainBlocksSpec : ChangeSpec := { name := "plainBlocks", fn := fun _ => fun
  | [d1, d2, d3, d4] => { results := [.lit (.bool true)], args := [d1, d2, d3, d4] }
  | _ => none }
def plainBlocksRow : OpenClaim := { program := "ytegjeagfcfhbeaa", sum := "3f972d28ce86e580a16d7eb59a9a5cfbecc667da8ef0a0963d92ebc906c6f95d", func := "bellows/bellowslaw13.PlainBlocks", spec := "plainBlocks", unfollowed := true, recurses := true, apart := false }
def PlainBlocksSaid : Prop := plainBlocksRow.holds Try.pinned (OpenSpec.ofChange plainBlocksSpec)

/-- ITS FALSE NEIGHBOUR: 'it returns false'. Refute it at one input. -/
def plainBlocksWrong : ChangeSpec := { name := "plainBlocks", fn := fun _ => fun
  | [d1, d2, d3, d4] => { results := [.lit (.bool false)], args := [d1, d2, d3, d4] }
  | _ => none }
def PlainBlocksWrongFalsely : Prop := plainBlocksRow.holds Try.pinned (OpenSpec.ofChange plainBlocksWrong)

/- THE SECOND FORM. 'bulk': how many values and letters a reading holds, each counted each time it is reached (what is shared counts as often as it is met; a slice's spare places count too). A statement '..UptoSaid' is the law's where the arguments, and the package variables that the reading takes, are together of bulk at most 1048576: NARROWER than '..Said'. Prove '..Said' where nothing that the law and all that it calls make is longer than what came in: it says more and counts as full. Else prove '..UptoSaid'. A law counts once. -/
mutual
def uptoBulk {H : Type} : DataW H → Nat
  | .lit (.string bytes) => bytes.length + 1
  | .lit _ => 1
  | .nil => 1
  | .ptr d => uptoBulk d + 1
  | .slice elems spare => uptoBulkAll elems + uptoBulkAll spare + 1
  | .agg parts => uptoBulkAll parts + 1
  | .iface _ d => uptoBulk d + 1
  | .map entries => uptoBulkEntries entries + 1
  | .held _ => 1
def uptoBulkAll {H : Type} : List (DataW H) → Nat
  | [] => 0
  | d :: r => uptoBulk d + uptoBulkAll r
def uptoBulkEntries {H : Type} : List (Lit × DataW H) → Nat
  | [] => 0
  | x :: r => uptoBulkEntry x + uptoBulkEntries r
def uptoBulkEntry {H : Type} : Lit × DataW H → Nat
  | (.string bytes, d) => bytes.length + uptoBulk d + 1
  | (_, d) => uptoBulk d + 1
 end
def uptoSmall : (H : Type) → List (DataW H) → Bool := fun _ ds => decide (uptoBulkAll ds ≤ 1048576)
def OpenSpec.upto (s : _root_.Go.ChangeSpec) : _root_.Go.OpenSpec := { _root_.Go.OpenSpec.ofChange s with cond := some uptoSmall }

/-- 'bellowslaw13.PlainReads', WHERE WHAT IT READS IS OF BULK AT MOST 1048576: true; the input reads as it did. -/
def plainReadsUptoRow : OpenClaim := { program := "ytegjeagfcfhbeaa", sum := "3f972d28ce86e580a16d7eb59a9a5cfbecc667da8ef0a0963d92ebc906c6f95d", func := "bellows/bellowslaw13.PlainReads", spec := "plainReads", unfollowed := true, recurses := true, apart := false, narrowed := true }
def PlainReadsUptoSaid : Prop := plainReadsUptoRow.holds Try.pinned (OpenSpec.upto plainReadsSpec)

/-- 'bellowslaw13.PlainLimit', WHERE WHAT IT READS IS OF BULK AT MOST 1048576: true; the input reads as it did. -/
def plainLimitUptoRow : OpenClaim := { program := "ytegjeagfcfhbeaa", sum := "3f972d28ce86e580a16d7eb59a9a5cfbecc667da8ef0a0963d92ebc906c6f95d", func := "bellows/bellowslaw13.PlainLimit", spec := "plainLimit", unfollowed := true, recurses := true, apart := false, narrowed := true }
def PlainLimitUptoSaid : Prop := plainLimitUptoRow.holds Try.pinned (OpenSpec.upto plainLimitSpec)

/-- 'bellowslaw13.PlainTells', WHERE WHAT IT READS IS OF BULK AT MOST 1048576: true; the input reads as it did. -/
def plainTellsUptoRow : OpenClaim := { program := "ytegjeagfcfhbeaa", sum := "3f972d28ce86e580a16d7eb59a9a5cfbecc667da8ef0a0963d92ebc906c6f95d", func := "bellows/bellowslaw13.PlainTells", spec := "plainTells", unfollowed := true, recurses := true, apart := false, narrowed := true }
def PlainTellsUptoSaid : Prop := plainTellsUptoRow.holds Try.pinned (OpenSpec.upto plainTellsSpec)

/-- 'bellowslaw13.PlainBegins', WHERE WHAT IT READS IS OF BULK AT MOST 1048576: true; the input reads as it did. -/
def plainBeginsUptoRow : OpenClaim := { program := "ytegjeagfcfhbeaa", sum := "3f972d28ce86e580a16d7eb59a9a5cfbecc667da8ef0a0963d92ebc906c6f95d", func := "bellows/bellowslaw13.PlainBegins", spec := "plainBegins", unfollowed := true, recurses := true, apart := false, narrowed := true }
def PlainBeginsUptoSaid : Prop := plainBeginsUptoRow.holds Try.pinned (OpenSpec.upto plainBeginsSpec)

/-- 'bellowslaw13.PlainNames', WHERE WHAT IT READS IS OF BULK AT MOST 1048576: true; the input reads as it did. -/
def plainNamesUptoRow : OpenClaim := { program := "ytegjeagfcfhbeaa", sum := "3f972d28ce86e580a16d7eb59a9a5cfbecc667da8ef0a0963d92ebc906c6f95d", func := "bellows/bellowslaw13.PlainNames", spec := "plainNames", unfollowed := true, recurses := true, apart := false, narrowed := true }
def PlainNamesUptoSaid : Prop := plainNamesUptoRow.holds Try.pinned (OpenSpec.upto plainNamesSpec)

/-- 'bellowslaw13.PlainBlocks', WHERE WHAT IT READS IS OF BULK AT MOST 1048576: true; the input reads as it did. -/
def plainBlocksUptoRow : OpenClaim := { program := "ytegjeagfcfhbeaa", sum := "3f972d28ce86e580a16d7eb59a9a5cfbecc667da8ef0a0963d92ebc906c6f95d", func := "bellows/bellowslaw13.PlainBlocks", spec := "plainBlocks", unfollowed := true, recurses := true, apart := false, narrowed := true }
def PlainBlocksUptoSaid : Prop := plainBlocksUptoRow.holds Try.pinned (OpenSpec.upto plainBlocksSpec)

end Rows
end Go.Proofs.Ytegjeagfcfhbeaa
