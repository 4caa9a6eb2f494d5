/-
  No cell of these rows narrows 'for every input' (looked for: loops, veiled, ifaces, maps, wideKeys, modest, calm, conditions, laid).
  DERIVED. THE GIVEN ROWS OF THIS SEAT. 4 by the template 'for every input the law returns true; each argument reads behind the call as it read before'; 0 by the template 'total and deterministic' (their statements: YtmdejhgacknfhaaTotals.lean).
  GIVEN WITH THE SEED: the statements are not yours to turn. If you find one false, say at which input.
  Laid BY PROGRAM, IN A SANDBOX (cutbox-rows.mjs): the forced cells as the released guide's own fill.sh prints them over the translation 39f8bbc1d3021926… (all of the seat's roots in one cut). By AI agents, Wed Nov 11 2026. No macro, syntax, notation, axiom, sorry.
-/
import Derived.Test.YtmdejhgacknfhaaChecked
import GoSem.Claim
import GoSem.ClaimJoined
import GoSem.ClaimMapViews
import Derived.JoinedTies
import Derived.KernelRfl
namespace Go.Proofs.Ytmdejhgacknfhaa
/- THE CELL 'sum', in the pinned program and in every row, IS THE sha256 OF THE DUMP (.gsa) THAT YtmdejhgacknfhaaProg.lean LOADS. Nothing in Lean hashes anything: it is a label: what it is worth is what the hold of that sum in a sandbox is worth. -/
noncomputable def Try.pinned : Pinned := { name := "ytmdejhgacknfhaa", sum := "39f8bbc1d302192617fb56dc63a519a046c59fd2eb1f17ba27189627aa8b2796", checked := Try.checked }
namespace Rows
def none {H : Type} : Left H := { results := [], args := [] }

/-- 'bellowslaw15.WrapWrites': WHATEVER THE INPUT: true; the input reads as it did. -/
def wrapWritesSpec : ChangeSpec := { name := "wrapWrites", fn := fun _ => fun
  | [d1, d2, d3, d4] => { results := [.lit (.bool true)], args := [d1, d2, d3, d4] }
  | _ => none }
def wrapWritesRow : OpenClaim := { program := "ytmdejhgacknfhaa", sum := "39f8bbc1d302192617fb56dc63a519a046c59fd2eb1f17ba27189627aa8b2796", func := "bellows/bellowslaw15.WrapWrites", spec := "wrapWrites", inPlace := ["internal/bytealg.IndexByteString", "internal/bytealg.MakeNoZero"], unfollowed := true, recurses := true, apart := false }
def WrapWritesSaid : Prop := wrapWritesRow.holds Try.pinned (OpenSpec.ofChange wrapWritesSpec)

/-- ITS FALSE NEIGHBOUR: 'it returns false'. Refute it at one input. -/
def wrapWritesWrong : ChangeSpec := { name := "wrapWrites", fn := fun _ => fun
  | [d1, d2, d3, d4] => { results := [.lit (.bool false)], args := [d1, d2, d3, d4] }
  | _ => none }
def WrapWritesWrongFalsely : Prop := wrapWritesRow.holds Try.pinned (OpenSpec.ofChange wrapWritesWrong)

/-- 'bellowslaw15.WrapBack': WHATEVER THE INPUT: true; the input reads as it did. -/
def wrapBackSpec : ChangeSpec := { name := "wrapBack", fn := fun _ => fun
  | [d1, d2, d3, d4] => { results := [.lit (.bool true)], args := [d1, d2, d3, d4] }
  | _ => none }
def wrapBackRow : OpenClaim := { program := "ytmdejhgacknfhaa", sum := "39f8bbc1d302192617fb56dc63a519a046c59fd2eb1f17ba27189627aa8b2796", func := "bellows/bellowslaw15.WrapBack", spec := "wrapBack", inPlace := ["internal/bytealg.IndexByteString", "internal/bytealg.MakeNoZero"], unfollowed := true, recurses := true, apart := false }
def WrapBackSaid : Prop := wrapBackRow.holds Try.pinned (OpenSpec.ofChange wrapBackSpec)

/-- ITS FALSE NEIGHBOUR: 'it returns false'. Refute it at one input. -/
def wrapBackWrong : ChangeSpec := { name := "wrapBack", fn := fun _ => fun
  | [d1, d2, d3, d4] => { results := [.lit (.bool false)], args := [d1, d2, d3, d4] }
  | _ => none }
def WrapBackWrongFalsely : Prop := wrapBackRow.holds Try.pinned (OpenSpec.ofChange wrapBackWrong)

/-- 'bellowslaw15.WrapEnds': WHATEVER THE INPUT: true; the input reads as it did. -/
def wrapEndsSpec : ChangeSpec := { name := "wrapEnds", fn := fun _ => fun
  | [d1, d2, d3] => { results := [.lit (.bool true)], args := [d1, d2, d3] }
  | _ => none }
def wrapEndsRow : OpenClaim := { program := "ytmdejhgacknfhaa", sum := "39f8bbc1d302192617fb56dc63a519a046c59fd2eb1f17ba27189627aa8b2796", func := "bellows/bellowslaw15.WrapEnds", spec := "wrapEnds", inPlace := ["internal/bytealg.IndexByteString", "internal/bytealg.MakeNoZero"], unfollowed := true, recurses := true, apart := false }
def WrapEndsSaid : Prop := wrapEndsRow.holds Try.pinned (OpenSpec.ofChange wrapEndsSpec)

/-- ITS FALSE NEIGHBOUR: 'it returns false'. Refute it at one input. -/
def wrapEndsWrong : ChangeSpec := { name := "wrapEnds", fn := fun _ => fun
  | [d1, d2, d3] => { results := [.lit (.bool false)], args := [d1, d2, d3] }
  | _ => none }
def WrapEndsWrongFalsely : Prop := wrapEndsRow.holds Try.pinned (OpenSpec.ofChange wrapEndsWrong)

/-- 'bellowslaw15.WrapNames': WHATEVER THE INPUT: true; the input reads as it did. -/
def wrapNamesSpec : ChangeSpec := { name := "wrapNames", fn := fun _ => fun
  | [] => { results := [.lit (.bool true)], args := [] }
  | _ => none }
def wrapNamesRow : OpenClaim := { program := "ytmdejhgacknfhaa", sum := "39f8bbc1d302192617fb56dc63a519a046c59fd2eb1f17ba27189627aa8b2796", func := "bellows/bellowslaw15.WrapNames", spec := "wrapNames", inPlace := ["internal/bytealg.IndexByteString", "internal/bytealg.MakeNoZero"], unfollowed := true, recurses := true, apart := false }
def WrapNamesSaid : Prop := wrapNamesRow.holds Try.pinned (OpenSpec.ofChange wrapNamesSpec)

/-- ITS FALSE NEIGHBOUR: 'it returns false'. Refute it at one input. -/
def wrapNamesWrong : ChangeSpec := { name := "wrapNames", fn := fun _ => fun
  | [] => { results := [.lit (.bool false)], args := [] }
  | _ => none }
def WrapNamesWrongFalsely : Prop := wrapNamesRow.holds Try.pinned (OpenSpec.ofChange wrapNamesWrong)

/- THE SECOND FORM. 'bulk': how many values and letters a reading holds, each counted each time it is reached (what is shared counts as often as it is met; a slice's spare places count too). A statement '..UptoSaid' is the law's where the arguments, and the package variables that the reading takes, are together of bulk at most 1048576: NARROWER than '..Said'. Prove '..Said' where nothing that the law and all that it calls make is longer than what came in: it says more and counts as full. Else prove '..UptoSaid'. A law counts once. -/
mutual
def uptoBulk {H : Type} : DataW H → Nat
  | .lit (.string bytes) => bytes.length + 1
  | .lit _ => 1
  | .nil => 1
  | .ptr d => uptoBulk d + 1
  | .slice elems spare => uptoBulkAll elems + uptoBulkAll spare + 1
  | .agg parts => uptoBulkAll parts + 1
  | .iface _ d => uptoBulk d + 1
  | .map entries => uptoBulkEntries entries + 1
  | .held _ => 1
def uptoBulkAll {H : Type} : List (DataW H) → Nat
  | [] => 0
  | d :: r => uptoBulk d + uptoBulkAll r
def uptoBulkEntries {H : Type} : List (Lit × DataW H) → Nat
  | [] => 0
  | x :: r => uptoBulkEntry x + uptoBulkEntries r
def uptoBulkEntry {H : Type} : Lit × DataW H → Nat
  | (.string bytes, d) => bytes.length + uptoBulk d + 1
  | (_, d) => uptoBulk d + 1
 end
def uptoSmall : (H : Type) → List (DataW H) → Bool := fun _ ds => decide (uptoBulkAll ds ≤ 1048576)
def OpenSpec.upto (s : _root_.Go.ChangeSpec) : _root_.Go.OpenSpec := { _root_.Go.OpenSpec.ofChange s with cond := some uptoSmall }

/-- 'bellowslaw15.WrapWrites', WHERE WHAT IT READS IS OF BULK AT MOST 1048576: true; the input reads as it did. -/
def wrapWritesUptoRow : OpenClaim := { program := "ytmdejhgacknfhaa", sum := "39f8bbc1d302192617fb56dc63a519a046c59fd2eb1f17ba27189627aa8b2796", func := "bellows/bellowslaw15.WrapWrites", spec := "wrapWrites", inPlace := ["internal/bytealg.IndexByteString", "internal/bytealg.MakeNoZero"], unfollowed := true, recurses := true, apart := false, narrowed := true }
def WrapWritesUptoSaid : Prop := wrapWritesUptoRow.holds Try.pinned (OpenSpec.upto wrapWritesSpec)

/-- 'bellowslaw15.WrapBack', WHERE WHAT IT READS IS OF BULK AT MOST 1048576: true; the input reads as it did. -/
def wrapBackUptoRow : OpenClaim := { program := "ytmdejhgacknfhaa", sum := "39f8bbc1d302192617fb56dc63a519a046c59fd2eb1f17ba27189627aa8b2796", func := "bellows/bellowslaw15.WrapBack", spec := "wrapBack", inPlace := ["internal/bytealg.IndexByteString", "internal/bytealg.MakeNoZero"], unfollowed := true, recurses := true, apart := false, narrowed := true }
def WrapBackUptoSaid : Prop := wrapBackUptoRow.holds Try.pinned (OpenSpec.upto wrapBackSpec)

/-- 'bellowslaw15.WrapEnds', WHERE WHAT IT READS IS OF BULK AT MOST 1048576: true; the input reads as it did. -/
def wrapEndsUptoRow : OpenClaim := { program := "ytmdejhgacknfhaa", sum := "39f8bbc1d302192617fb56dc63a519a046c59fd2eb1f17ba27189627aa8b2796", func := "bellows/bellowslaw15.WrapEnds", spec := "wrapEnds", inPlace := ["internal/bytealg.IndexByteString", "internal/bytealg.MakeNoZero"], unfollowed := true, recurses := true, apart := false, narrowed := true }
def WrapEndsUptoSaid : Prop := wrapEndsUptoRow.holds Try.pinned (OpenSpec.upto wrapEndsSpec)

/-- 'bellowslaw15.WrapNames', WHERE WHAT IT READS IS OF BULK AT MOST 1048576: true; the input reads as it did. -/
def wrapNamesUptoRow : OpenClaim := { program := "ytmdejhgacknfhaa", sum := "39f8bbc1d302192617fb56dc63a519a046c59fd2eb1f17ba27189627aa8b2796", func := "bellows/bellowslaw15.WrapNames", spec := "wrapNames", inPlace := ["internal/bytealg.IndexByteString", "internal/bytealg.MakeNoZero"], unfollowed := true, recurses := true, apart := false, narrowed := true }
def WrapNamesUptoSaid : Prop := wrapNamesUptoRow.holds Try.pinned (OpenSpec.upto wrapNamesSpec)

end Rows
end Go.Proofs.Ytmdejhgacknfhaa
