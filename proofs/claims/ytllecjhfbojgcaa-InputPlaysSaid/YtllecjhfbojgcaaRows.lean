/-
  No cell of these rows narrows 'for every input' (looked for: loops, veiled, ifaces, maps, wideKeys, modest, calm, conditions, laid).
  DERIVED. THE GIVEN ROWS OF THIS SEAT. 9 by the template 'for every input the law returns true; each argument reads behind the call as it read before'; 0 by the template 'total and deterministic' (their statements: YtllecjhfbojgcaaTotals.lean).
  GIVEN WITH THE SEED: the statements are not yours to turn. If you find one false, say at which input.
  Laid BY PROGRAM, IN A SANDBOX (cutbox-rows.mjs): the forced cells as the released guide's own fill.sh prints them over the translation 0a631d9132b66f80… (all of the seat's roots in one cut). By AI agents, Wed Nov 11 2026. No macro, syntax, notation, axiom, sorry.
-/
import Derived.Test.YtllecjhfbojgcaaChecked
import GoSem.Claim
import GoSem.ClaimJoined
import GoSem.ClaimMapViews
import Derived.JoinedTies
import Derived.KernelRfl
namespace Go.Proofs.Ytllecjhfbojgcaa
/- THE CELL 'sum', in the pinned program and in every row, IS THE sha256 OF THE DUMP (.gsa) THAT YtllecjhfbojgcaaProg.lean LOADS. Nothing in Lean hashes anything: it is a label: what it is worth is what the hold of that sum in a sandbox is worth. -/
noncomputable def Try.pinned : Pinned := { name := "ytllecjhfbojgcaa", sum := "0a631d9132b66f809a52a49b68c0550df516f774e99569fcbc8ea080064b2dfd", checked := Try.checked }
namespace Rows
def none {H : Type} : Left H := { results := [], args := [] }

/-- 'changelinglaw21.InputKnown': WHATEVER THE INPUT: true; the input reads as it did. -/
def inputKnownSpec : ChangeSpec := { name := "inputKnown", fn := fun _ => fun
  | [] => { results := [.lit (.bool true)], args := [] }
  | _ => none }
def inputKnownRow : OpenClaim := { program := "ytllecjhfbojgcaa", sum := "0a631d9132b66f809a52a49b68c0550df516f774e99569fcbc8ea080064b2dfd", func := "changeling/changelinglaw21.InputKnown", spec := "inputKnown", inPlace := ["internal/abi.NoEscape", "internal/bytealg.MakeNoZero"], unfollowed := true, recurses := true, apart := false }
def InputKnownSaid : Prop := inputKnownRow.holds Try.pinned (OpenSpec.ofChange inputKnownSpec)

/-- ITS FALSE NEIGHBOUR: 'it returns false'. Refute it at one input. -/
def inputKnownWrong : ChangeSpec := { name := "inputKnown", fn := fun _ => fun
  | [] => { results := [.lit (.bool false)], args := [] }
  | _ => none }
def InputKnownWrongFalsely : Prop := inputKnownRow.holds Try.pinned (OpenSpec.ofChange inputKnownWrong)

/-- 'changelinglaw21.InputCuts': WHATEVER THE INPUT: true; the input reads as it did. -/
def inputCutsSpec : ChangeSpec := { name := "inputCuts", fn := fun _ => fun
  | [d] => { results := [.lit (.bool true)], args := [d] }
  | _ => none }
def inputCutsRow : OpenClaim := { program := "ytllecjhfbojgcaa", sum := "0a631d9132b66f809a52a49b68c0550df516f774e99569fcbc8ea080064b2dfd", func := "changeling/changelinglaw21.InputCuts", spec := "inputCuts", inPlace := ["internal/abi.NoEscape", "internal/bytealg.MakeNoZero"], unfollowed := true, recurses := true, apart := false }
def InputCutsSaid : Prop := inputCutsRow.holds Try.pinned (OpenSpec.ofChange inputCutsSpec)

/-- ITS FALSE NEIGHBOUR: 'it returns false'. Refute it at one input. -/
def inputCutsWrong : ChangeSpec := { name := "inputCuts", fn := fun _ => fun
  | [d] => { results := [.lit (.bool false)], args := [d] }
  | _ => none }
def InputCutsWrongFalsely : Prop := inputCutsRow.holds Try.pinned (OpenSpec.ofChange inputCutsWrong)

/-- 'changelinglaw21.InputRow': WHATEVER THE INPUT: true; the input reads as it did. -/
def inputRowSpec : ChangeSpec := { name := "inputRow", fn := fun _ => fun
  | [d] => { results := [.lit (.bool true)], args := [d] }
  | _ => none }
def inputRowRow : OpenClaim := { program := "ytllecjhfbojgcaa", sum := "0a631d9132b66f809a52a49b68c0550df516f774e99569fcbc8ea080064b2dfd", func := "changeling/changelinglaw21.InputRow", spec := "inputRow", inPlace := ["internal/abi.NoEscape", "internal/bytealg.MakeNoZero"], unfollowed := true, recurses := true, apart := false }
def InputRowSaid : Prop := inputRowRow.holds Try.pinned (OpenSpec.ofChange inputRowSpec)

/-- ITS FALSE NEIGHBOUR: 'it returns false'. Refute it at one input. -/
def inputRowWrong : ChangeSpec := { name := "inputRow", fn := fun _ => fun
  | [d] => { results := [.lit (.bool false)], args := [d] }
  | _ => none }
def InputRowWrongFalsely : Prop := inputRowRow.holds Try.pinned (OpenSpec.ofChange inputRowWrong)

/-- 'changelinglaw21.InputKept': WHATEVER THE INPUT: true; the input reads as it did. -/
def inputKeptSpec : ChangeSpec := { name := "inputKept", fn := fun _ => fun
  | [d1, d2, d3, d4] => { results := [.lit (.bool true)], args := [d1, d2, d3, d4] }
  | _ => none }
def inputKeptRow : OpenClaim := { program := "ytllecjhfbojgcaa", sum := "0a631d9132b66f809a52a49b68c0550df516f774e99569fcbc8ea080064b2dfd", func := "changeling/changelinglaw21.InputKept", spec := "inputKept", inPlace := ["internal/abi.NoEscape", "internal/bytealg.MakeNoZero"], unfollowed := true, recurses := true, apart := false }
def InputKeptSaid : Prop := inputKeptRow.holds Try.pinned (OpenSpec.ofChange inputKeptSpec)

/-- ITS FALSE NEIGHBOUR: 'it returns false'. Refute it at one input. -/
def inputKeptWrong : ChangeSpec := { name := "inputKept", fn := fun _ => fun
  | [d1, d2, d3, d4] => { results := [.lit (.bool false)], args := [d1, d2, d3, d4] }
  | _ => none }
def InputKeptWrongFalsely : Prop := inputKeptRow.holds Try.pinned (OpenSpec.ofChange inputKeptWrong)

/-- 'changelinglaw21.InputPlays': WHATEVER THE INPUT: true; the input reads as it did. -/
def inputPlaysSpec : ChangeSpec := { name := "inputPlays", fn := fun _ => fun
  | [d1, d2, d3] => { results := [.lit (.bool true)], args := [d1, d2, d3] }
  | _ => none }
def inputPlaysRow : OpenClaim := { program := "ytllecjhfbojgcaa", sum := "0a631d9132b66f809a52a49b68c0550df516f774e99569fcbc8ea080064b2dfd", func := "changeling/changelinglaw21.InputPlays", spec := "inputPlays", inPlace := ["internal/abi.NoEscape", "internal/bytealg.MakeNoZero"], unfollowed := true, recurses := true, apart := false }
def InputPlaysSaid : Prop := inputPlaysRow.holds Try.pinned (OpenSpec.ofChange inputPlaysSpec)

/-- ITS FALSE NEIGHBOUR: 'it returns false'. Refute it at one input. -/
def inputPlaysWrong : ChangeSpec := { name := "inputPlays", fn := fun _ => fun
  | [d1, d2, d3] => { results := [.lit (.bool false)], args := [d1, d2, d3] }
  | _ => none }
def InputPlaysWrongFalsely : Prop := inputPlaysRow.holds Try.pinned (OpenSpec.ofChange inputPlaysWrong)

/-- 'changelinglaw22.OutputGrows': WHATEVER THE INPUT: true; the input reads as it did. -/
def outputGrowsSpec : ChangeSpec := { name := "outputGrows", fn := fun _ => fun
  | [d] => { results := [.lit (.bool true)], args := [d] }
  | _ => none }
def outputGrowsRow : OpenClaim := { program := "ytllecjhfbojgcaa", sum := "0a631d9132b66f809a52a49b68c0550df516f774e99569fcbc8ea080064b2dfd", func := "changeling/changelinglaw22.OutputGrows", spec := "outputGrows", inPlace := ["internal/abi.NoEscape", "internal/bytealg.MakeNoZero"], unfollowed := true, recurses := true, apart := false }
def OutputGrowsSaid : Prop := outputGrowsRow.holds Try.pinned (OpenSpec.ofChange outputGrowsSpec)

/-- ITS FALSE NEIGHBOUR: 'it returns false'. Refute it at one input. -/
def outputGrowsWrong : ChangeSpec := { name := "outputGrows", fn := fun _ => fun
  | [d] => { results := [.lit (.bool false)], args := [d] }
  | _ => none }
def OutputGrowsWrongFalsely : Prop := outputGrowsRow.holds Try.pinned (OpenSpec.ofChange outputGrowsWrong)

/-- 'changelinglaw22.OutputBoth': WHATEVER THE INPUT: true; the input reads as it did. -/
def outputBothSpec : ChangeSpec := { name := "outputBoth", fn := fun _ => fun
  | [d1, d2, d3, d4, d5] => { results := [.lit (.bool true)], args := [d1, d2, d3, d4, d5] }
  | _ => none }
def outputBothRow : OpenClaim := { program := "ytllecjhfbojgcaa", sum := "0a631d9132b66f809a52a49b68c0550df516f774e99569fcbc8ea080064b2dfd", func := "changeling/changelinglaw22.OutputBoth", spec := "outputBoth", inPlace := ["internal/abi.NoEscape", "internal/bytealg.MakeNoZero"], unfollowed := true, recurses := true, apart := false }
def OutputBothSaid : Prop := outputBothRow.holds Try.pinned (OpenSpec.ofChange outputBothSpec)

/-- ITS FALSE NEIGHBOUR: 'it returns false'. Refute it at one input. -/
def outputBothWrong : ChangeSpec := { name := "outputBoth", fn := fun _ => fun
  | [d1, d2, d3, d4, d5] => { results := [.lit (.bool false)], args := [d1, d2, d3, d4, d5] }
  | _ => none }
def OutputBothWrongFalsely : Prop := outputBothRow.holds Try.pinned (OpenSpec.ofChange outputBothWrong)

/-- 'changelinglaw22.OutputKnown': WHATEVER THE INPUT: true; the input reads as it did. -/
def outputKnownSpec : ChangeSpec := { name := "outputKnown", fn := fun _ => fun
  | [] => { results := [.lit (.bool true)], args := [] }
  | _ => none }
def outputKnownRow : OpenClaim := { program := "ytllecjhfbojgcaa", sum := "0a631d9132b66f809a52a49b68c0550df516f774e99569fcbc8ea080064b2dfd", func := "changeling/changelinglaw22.OutputKnown", spec := "outputKnown", inPlace := ["internal/abi.NoEscape", "internal/bytealg.MakeNoZero"], unfollowed := true, recurses := true, apart := false }
def OutputKnownSaid : Prop := outputKnownRow.holds Try.pinned (OpenSpec.ofChange outputKnownSpec)

/-- ITS FALSE NEIGHBOUR: 'it returns false'. Refute it at one input. -/
def outputKnownWrong : ChangeSpec := { name := "outputKnown", fn := fun _ => fun
  | [] => { results := [.lit (.bool false)], args := [] }
  | _ => none }
def OutputKnownWrongFalsely : Prop := outputKnownRow.holds Try.pinned (OpenSpec.ofChange outputKnownWrong)

/-- 'changelinglaw22.OutputOnce': WHATEVER THE INPUT: true; the input reads as it did. -/
def outputOnceSpec : ChangeSpec := { name := "outputOnce", fn := fun _ => fun
  | [d1, d2] => { results := [.lit (.bool true)], args := [d1, d2] }
  | _ => none }
def outputOnceRow : OpenClaim := { program := "ytllecjhfbojgcaa", sum := "0a631d9132b66f809a52a49b68c0550df516f774e99569fcbc8ea080064b2dfd", func := "changeling/changelinglaw22.OutputOnce", spec := "outputOnce", inPlace := ["internal/abi.NoEscape", "internal/bytealg.MakeNoZero"], unfollowed := true, recurses := true, apart := false }
def OutputOnceSaid : Prop := outputOnceRow.holds Try.pinned (OpenSpec.ofChange outputOnceSpec)

/-- ITS FALSE NEIGHBOUR: 'it returns false'. Refute it at one input. -/
def outputOnceWrong : ChangeSpec := { name := "outputOnce", fn := fun _ => fun
  | [d1, d2] => { results := [.lit (.bool false)], args := [d1, d2] }
  | _ => none }
def OutputOnceWrongFalsely : Prop := outputOnceRow.holds Try.pinned (OpenSpec.ofChange outputOnceWrong)

/- THE SECOND FORM. 'bulk': how many values and letters a reading holds, each counted each time it is reached (what is shared counts as often as it is met; a slice's spare places count too). A statement '..UptoSaid' is the law's where the arguments, and the package variables that the reading takes, are together of bulk at most 1048576: NARROWER than '..Said'. Prove '..Said' where nothing that the law and all that it calls make is longer than what came in: it says more and counts as full. Else prove '..UptoSaid'. A law counts once. -/
mutual
def uptoBulk {H : Type} : DataW H → Nat
  | .lit (.string bytes) => bytes.length + 1
  | .lit _ => 1
  | .nil => 1
  | .ptr d => uptoBulk d + 1
  | .slice elems spare => uptoBulkAll elems + uptoBulkAll spare + 1
  | .agg parts => uptoBulkAll parts + 1
  | .iface _ d => uptoBulk d + 1
  | .map entries => uptoBulkEntries entries + 1
  | .held _ => 1
def uptoBulkAll {H : Type} : List (DataW H) → Nat
  | [] => 0
  | d :: r => uptoBulk d + uptoBulkAll r
def uptoBulkEntries {H : Type} : List (Lit × DataW H) → Nat
  | [] => 0
  | x :: r => uptoBulkEntry x + uptoBulkEntries r
def uptoBulkEntry {H : Type} : Lit × DataW H → Nat
  | (.string bytes, d) => bytes.length + uptoBulk d + 1
  | (_, d) => uptoBulk d + 1
 end
def uptoSmall : (H : Type) → List (DataW H) → Bool := fun _ ds => decide (uptoBulkAll ds ≤ 1048576)
def OpenSpec.upto (s : _root_.Go.ChangeSpec) : _root_.Go.OpenSpec := { _root_.Go.OpenSpec.ofChange s with cond := some uptoSmall }

/-- 'changelinglaw21.InputKnown', WHERE WHAT IT READS IS OF BULK AT MOST 1048576: true; the input reads as it did. -/
def inputKnownUptoRow : OpenClaim := { program := "ytllecjhfbojgcaa", sum := "0a631d9132b66f809a52a49b68c0550df516f774e99569fcbc8ea080064b2dfd", func := "changeling/changelinglaw21.InputKnown", spec := "inputKnown", inPlace := ["internal/abi.NoEscape", "internal/bytealg.MakeNoZero"], unfollowed := true, recurses := true, apart := false, narrowed := true }
def InputKnownUptoSaid : Prop := inputKnownUptoRow.holds Try.pinned (OpenSpec.upto inputKnownSpec)

/-- 'changelinglaw21.InputCuts', WHERE WHAT IT READS IS OF BULK AT MOST 1048576: true; the input reads as it did. -/
def inputCutsUptoRow : OpenClaim := { program := "ytllecjhfbojgcaa", sum := "0a631d9132b66f809a52a49b68c0550df516f774e99569fcbc8ea080064b2dfd", func := "changeling/changelinglaw21.InputCuts", spec := "inputCuts", inPlace := ["internal/abi.NoEscape", "internal/bytealg.MakeNoZero"], unfollowed := true, recurses := true, apart := false, narrowed := true }
def InputCutsUptoSaid : Prop := inputCutsUptoRow.holds Try.pinned (OpenSpec.upto inputCutsSpec)

/-- 'changelinglaw21.InputRow', WHERE WHAT IT READS IS OF BULK AT MOST 1048576: true; the input reads as it did. -/
def inputRowUptoRow : OpenClaim := { program := "ytllecjhfbojgcaa", sum := "0a631d9132b66f809a52a49b68c0550df516f774e99569fcbc8ea080064b2dfd", func := "changeling/changelinglaw21.InputRow", spec := "inputRow", inPlace := ["internal/abi.NoEscape", "internal/bytealg.MakeNoZero"], unfollowed := true, recurses := true, apart := false, narrowed := true }
def InputRowUptoSaid : Prop := inputRowUptoRow.holds Try.pinned (OpenSpec.upto inputRowSpec)

/-- 'changelinglaw21.InputKept', WHERE WHAT IT READS IS OF BULK AT MOST 1048576: true; the input reads as it did. -/
def inputKeptUptoRow : OpenClaim := { program := "ytllecjhfbojgcaa", sum := "0a631d9132b66f809a52a49b68c0550df516f774e99569fcbc8ea080064b2dfd", func := "changeling/changelinglaw21.InputKept", spec := "inputKept", inPlace := ["internal/abi.NoEscape", "internal/bytealg.MakeNoZero"], unfollowed := true, recurses := true, apart := false, narrowed := true }
def InputKeptUptoSaid : Prop := inputKeptUptoRow.holds Try.pinned (OpenSpec.upto inputKeptSpec)

/-- 'changelinglaw21.InputPlays', WHERE WHAT IT READS IS OF BULK AT MOST 1048576: true; the input reads as it did. -/
def inputPlaysUptoRow : OpenClaim := { program := "ytllecjhfbojgcaa", sum := "0a631d9132b66f809a52a49b68c0550df516f774e99569fcbc8ea080064b2dfd", func := "changeling/changelinglaw21.InputPlays", spec := "inputPlays", inPlace := ["internal/abi.NoEscape", "internal/bytealg.MakeNoZero"], unfollowed := true, recurses := true, apart := false, narrowed := true }
def InputPlaysUptoSaid : Prop := inputPlaysUptoRow.holds Try.pinned (OpenSpec.upto inputPlaysSpec)

/-- 'changelinglaw22.OutputGrows', WHERE WHAT IT READS IS OF BULK AT MOST 1048576: true; the input reads as it did. -/
def outputGrowsUptoRow : OpenClaim := { program := "ytllecjhfbojgcaa", sum := "0a631d9132b66f809a52a49b68c0550df516f774e99569fcbc8ea080064b2dfd", func := "changeling/changelinglaw22.OutputGrows", spec := "outputGrows", inPlace := ["internal/abi.NoEscape", "internal/bytealg.MakeNoZero"], unfollowed := true, recurses := true, apart := false, narrowed := true }
def OutputGrowsUptoSaid : Prop := outputGrowsUptoRow.holds Try.pinned (OpenSpec.upto outputGrowsSpec)

/-- 'changelinglaw22.OutputBoth', WHERE WHAT IT READS IS OF BULK AT MOST 1048576: true; the input reads as it did. -/
def outputBothUptoRow : OpenClaim := { program := "ytllecjhfbojgcaa", sum := "0a631d9132b66f809a52a49b68c0550df516f774e99569fcbc8ea080064b2dfd", func := "changeling/changelinglaw22.OutputBoth", spec := "outputBoth", inPlace := ["internal/abi.NoEscape", "internal/bytealg.MakeNoZero"], unfollowed := true, recurses := true, apart := false, narrowed := true }
def OutputBothUptoSaid : Prop := outputBothUptoRow.holds Try.pinned (OpenSpec.upto outputBothSpec)

/-- 'changelinglaw22.OutputKnown', WHERE WHAT IT READS IS OF BULK AT MOST 1048576: true; the input reads as it did. -/
def outputKnownUptoRow : OpenClaim := { program := "ytllecjhfbojgcaa", sum := "0a631d9132b66f809a52a49b68c0550df516f774e99569fcbc8ea080064b2dfd", func := "changeling/changelinglaw22.OutputKnown", spec := "outputKnown", inPlace := ["internal/abi.NoEscape", "internal/bytealg.MakeNoZero"], unfollowed := true, recurses := true, apart := false, narrowed := true }
def OutputKnownUptoSaid : Prop := outputKnownUptoRow.holds Try.pinned (OpenSpec.upto outputKnownSpec)

/-- 'changelinglaw22.OutputOnce', WHERE WHAT IT READS IS OF BULK AT MOST 1048576: true; the input reads as it did. -/
def outputOnceUptoRow : OpenClaim := { program := "ytllecjhfbojgcaa", sum := "0a631d9132b66f809a52a49b68c0550df516f774e99569fcbc8ea080064b2dfd", func := "changeling/changelinglaw22.OutputOnce", spec := "outputOnce", inPlace := ["internal/abi.NoEscape", "internal/bytealg.MakeNoZero"], unfollowed := true, recurses := true, apart := false, narrowed := true }
def OutputOnceUptoSaid : Prop := outputOnceUptoRow.holds Try.pinned (OpenSpec.upto outputOnceSpec)

end Rows
end Go.Proofs.Ytllecjhfbojgcaa
