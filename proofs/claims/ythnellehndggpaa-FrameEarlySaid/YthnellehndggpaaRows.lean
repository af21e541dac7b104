/-
  No cell of these rows narrows 'for every input' (looked for: loops, veiled, ifaces, maps, wideKeys, modest, calm, conditions, laid).
  DERIVED. THE GIVEN ROWS OF THIS SEAT. 13 by the template 'for every input the law returns true; each argument reads behind the call as it read before'; 0 by the template 'total and deterministic' (their statements: YthnellehndggpaaTotals.lean).
  GIVEN WITH THE SEED: the statements are not yours to turn. If you find one false, say at which input.
  Laid BY PROGRAM, IN A SANDBOX (cutbox-rows.mjs): the forced cells as the released guide's own fill.sh prints them over the translation 3a7a8d5ed781e920… (all of the seat's roots in one cut). By AI agents, Wed Nov 11 2026. No macro, syntax, notation, axiom, sorry.
-/
import Derived.Test.YthnellehndggpaaChecked
import GoSem.Claim
import GoSem.ClaimJoined
import GoSem.ClaimMapViews
import Derived.JoinedTies
import Derived.KernelRfl
namespace Go.Proofs.Ythnellehndggpaa
/- THE CELL 'sum', in the pinned program and in every row, IS THE sha256 OF THE DUMP (.gsa) THAT YthnellehndggpaaProg.lean LOADS. Nothing in Lean hashes anything: it is a label: what it is worth is what the hold of that sum in a sandbox is worth. -/
noncomputable def Try.pinned : Pinned := { name := "ythnellehndggpaa", sum := "3a7a8d5ed781e9209caeef6fae6c94909d8a3cf67364fe35e9a95d0fd62b1e3d", checked := Try.checked }
namespace Rows
def none {H : Type} : Left H := { results := [], args := [] }

/-- 'changelinglaw02.BytesPuts': WHATEVER THE INPUT: true; the input reads as it did. -/
def bytesPutsSpec : ChangeSpec := { name := "bytesPuts", fn := fun _ => fun
  | [d] => { results := [.lit (.bool true)], args := [d] }
  | _ => none }
def bytesPutsRow : OpenClaim := { program := "ythnellehndggpaa", sum := "3a7a8d5ed781e9209caeef6fae6c94909d8a3cf67364fe35e9a95d0fd62b1e3d", func := "changeling/changelinglaw02.BytesPuts", spec := "bytesPuts", apart := false }
def BytesPutsSaid : Prop := bytesPutsRow.holds Try.pinned (OpenSpec.ofChange bytesPutsSpec)

/-- ITS FALSE NEIGHBOUR: 'it returns false'. Refute it at one input. -/
def bytesPutsWrong : ChangeSpec := { name := "bytesPuts", fn := fun _ => fun
  | [d] => { results := [.lit (.bool false)], args := [d] }
  | _ => none }
def BytesPutsWrongFalsely : Prop := bytesPutsRow.holds Try.pinned (OpenSpec.ofChange bytesPutsWrong)

/-- 'changelinglaw02.BytesSizes': WHATEVER THE INPUT: true; the input reads as it did. -/
def bytesSizesSpec : ChangeSpec := { name := "bytesSizes", fn := fun _ => fun
  | [d1, d2] => { results := [.lit (.bool true)], args := [d1, d2] }
  | _ => none }
def bytesSizesRow : OpenClaim := { program := "ythnellehndggpaa", sum := "3a7a8d5ed781e9209caeef6fae6c94909d8a3cf67364fe35e9a95d0fd62b1e3d", func := "changeling/changelinglaw02.BytesSizes", spec := "bytesSizes", unfollowed := true, recurses := true, apart := false }
def BytesSizesSaid : Prop := bytesSizesRow.holds Try.pinned (OpenSpec.ofChange bytesSizesSpec)

/-- ITS FALSE NEIGHBOUR: 'it returns false'. Refute it at one input. -/
def bytesSizesWrong : ChangeSpec := { name := "bytesSizes", fn := fun _ => fun
  | [d1, d2] => { results := [.lit (.bool false)], args := [d1, d2] }
  | _ => none }
def BytesSizesWrongFalsely : Prop := bytesSizesRow.holds Try.pinned (OpenSpec.ofChange bytesSizesWrong)

/-- 'changelinglaw02.BytesOne': WHATEVER THE INPUT: true; the input reads as it did. -/
def bytesOneSpec : ChangeSpec := { name := "bytesOne", fn := fun _ => fun
  | [d1, d2] => { results := [.lit (.bool true)], args := [d1, d2] }
  | _ => none }
def bytesOneRow : OpenClaim := { program := "ythnellehndggpaa", sum := "3a7a8d5ed781e9209caeef6fae6c94909d8a3cf67364fe35e9a95d0fd62b1e3d", func := "changeling/changelinglaw02.BytesOne", spec := "bytesOne", apart := false }
def BytesOneSaid : Prop := bytesOneRow.holds Try.pinned (OpenSpec.ofChange bytesOneSpec)

/-- ITS FALSE NEIGHBOUR: 'it returns false'. Refute it at one input. -/
def bytesOneWrong : ChangeSpec := { name := "bytesOne", fn := fun _ => fun
  | [d1, d2] => { results := [.lit (.bool false)], args := [d1, d2] }
  | _ => none }
def BytesOneWrongFalsely : Prop := bytesOneRow.holds Try.pinned (OpenSpec.ofChange bytesOneWrong)

/-- 'changelinglaw02.BytesTakes': WHATEVER THE INPUT: true; the input reads as it did. -/
def bytesTakesSpec : ChangeSpec := { name := "bytesTakes", fn := fun _ => fun
  | [d] => { results := [.lit (.bool true)], args := [d] }
  | _ => none }
def bytesTakesRow : OpenClaim := { program := "ythnellehndggpaa", sum := "3a7a8d5ed781e9209caeef6fae6c94909d8a3cf67364fe35e9a95d0fd62b1e3d", func := "changeling/changelinglaw02.BytesTakes", spec := "bytesTakes", apart := false }
def BytesTakesSaid : Prop := bytesTakesRow.holds Try.pinned (OpenSpec.ofChange bytesTakesSpec)

/-- ITS FALSE NEIGHBOUR: 'it returns false'. Refute it at one input. -/
def bytesTakesWrong : ChangeSpec := { name := "bytesTakes", fn := fun _ => fun
  | [d] => { results := [.lit (.bool false)], args := [d] }
  | _ => none }
def BytesTakesWrongFalsely : Prop := bytesTakesRow.holds Try.pinned (OpenSpec.ofChange bytesTakesWrong)

/-- 'changelinglaw02.BytesTexts': WHATEVER THE INPUT: true; the input reads as it did. -/
def bytesTextsSpec : ChangeSpec := { name := "bytesTexts", fn := fun _ => fun
  | [d] => { results := [.lit (.bool true)], args := [d] }
  | _ => none }
def bytesTextsRow : OpenClaim := { program := "ythnellehndggpaa", sum := "3a7a8d5ed781e9209caeef6fae6c94909d8a3cf67364fe35e9a95d0fd62b1e3d", func := "changeling/changelinglaw02.BytesTexts", spec := "bytesTexts", inPlace := ["internal/abi.NoEscape", "internal/bytealg.MakeNoZero"], apart := false }
def BytesTextsSaid : Prop := bytesTextsRow.holds Try.pinned (OpenSpec.ofChange bytesTextsSpec)

/-- ITS FALSE NEIGHBOUR: 'it returns false'. Refute it at one input. -/
def bytesTextsWrong : ChangeSpec := { name := "bytesTexts", fn := fun _ => fun
  | [d] => { results := [.lit (.bool false)], args := [d] }
  | _ => none }
def BytesTextsWrongFalsely : Prop := bytesTextsRow.holds Try.pinned (OpenSpec.ofChange bytesTextsWrong)

/-- 'changelinglaw02.BytesKnown': WHATEVER THE INPUT: true; the input reads as it did. -/
def bytesKnownSpec : ChangeSpec := { name := "bytesKnown", fn := fun _ => fun
  | [] => { results := [.lit (.bool true)], args := [] }
  | _ => none }
def bytesKnownRow : OpenClaim := { program := "ythnellehndggpaa", sum := "3a7a8d5ed781e9209caeef6fae6c94909d8a3cf67364fe35e9a95d0fd62b1e3d", func := "changeling/changelinglaw02.BytesKnown", spec := "bytesKnown", inPlace := ["internal/abi.NoEscape", "internal/bytealg.MakeNoZero"], apart := false }
def BytesKnownSaid : Prop := bytesKnownRow.holds Try.pinned (OpenSpec.ofChange bytesKnownSpec)

/-- ITS FALSE NEIGHBOUR: 'it returns false'. Refute it at one input. -/
def bytesKnownWrong : ChangeSpec := { name := "bytesKnown", fn := fun _ => fun
  | [] => { results := [.lit (.bool false)], args := [] }
  | _ => none }
def BytesKnownWrongFalsely : Prop := bytesKnownRow.holds Try.pinned (OpenSpec.ofChange bytesKnownWrong)

/-- 'changelinglaw02.BytesBack': WHATEVER THE INPUT: true; the input reads as it did. -/
def bytesBackSpec : ChangeSpec := { name := "bytesBack", fn := fun _ => fun
  | [d1, d2, d3] => { results := [.lit (.bool true)], args := [d1, d2, d3] }
  | _ => none }
def bytesBackRow : OpenClaim := { program := "ythnellehndggpaa", sum := "3a7a8d5ed781e9209caeef6fae6c94909d8a3cf67364fe35e9a95d0fd62b1e3d", func := "changeling/changelinglaw02.BytesBack", spec := "bytesBack", inPlace := ["internal/abi.NoEscape", "internal/bytealg.MakeNoZero"], apart := false }
def BytesBackSaid : Prop := bytesBackRow.holds Try.pinned (OpenSpec.ofChange bytesBackSpec)

/-- ITS FALSE NEIGHBOUR: 'it returns false'. Refute it at one input. -/
def bytesBackWrong : ChangeSpec := { name := "bytesBack", fn := fun _ => fun
  | [d1, d2, d3] => { results := [.lit (.bool false)], args := [d1, d2, d3] }
  | _ => none }
def BytesBackWrongFalsely : Prop := bytesBackRow.holds Try.pinned (OpenSpec.ofChange bytesBackWrong)

/-- 'changelinglaw04.FrameKnown': WHATEVER THE INPUT: true; the input reads as it did. -/
def frameKnownSpec : ChangeSpec := { name := "frameKnown", fn := fun _ => fun
  | [] => { results := [.lit (.bool true)], args := [] }
  | _ => none }
def frameKnownRow : OpenClaim := { program := "ythnellehndggpaa", sum := "3a7a8d5ed781e9209caeef6fae6c94909d8a3cf67364fe35e9a95d0fd62b1e3d", func := "changeling/changelinglaw04.FrameKnown", spec := "frameKnown", inPlace := ["internal/abi.NoEscape", "internal/bytealg.MakeNoZero"], apart := false }
def FrameKnownSaid : Prop := frameKnownRow.holds Try.pinned (OpenSpec.ofChange frameKnownSpec)

/-- ITS FALSE NEIGHBOUR: 'it returns false'. Refute it at one input. -/
def frameKnownWrong : ChangeSpec := { name := "frameKnown", fn := fun _ => fun
  | [] => { results := [.lit (.bool false)], args := [] }
  | _ => none }
def FrameKnownWrongFalsely : Prop := frameKnownRow.holds Try.pinned (OpenSpec.ofChange frameKnownWrong)

/-- 'changelinglaw04.FramePuts': WHATEVER THE INPUT: true; the input reads as it did. -/
def framePutsSpec : ChangeSpec := { name := "framePuts", fn := fun _ => fun
  | [d1, d2] => { results := [.lit (.bool true)], args := [d1, d2] }
  | _ => none }
def framePutsRow : OpenClaim := { program := "ythnellehndggpaa", sum := "3a7a8d5ed781e9209caeef6fae6c94909d8a3cf67364fe35e9a95d0fd62b1e3d", func := "changeling/changelinglaw04.FramePuts", spec := "framePuts", inPlace := ["internal/abi.NoEscape", "internal/bytealg.MakeNoZero"], apart := false }
def FramePutsSaid : Prop := framePutsRow.holds Try.pinned (OpenSpec.ofChange framePutsSpec)

/-- ITS FALSE NEIGHBOUR: 'it returns false'. Refute it at one input. -/
def framePutsWrong : ChangeSpec := { name := "framePuts", fn := fun _ => fun
  | [d1, d2] => { results := [.lit (.bool false)], args := [d1, d2] }
  | _ => none }
def FramePutsWrongFalsely : Prop := framePutsRow.holds Try.pinned (OpenSpec.ofChange framePutsWrong)

/-- 'changelinglaw04.FrameBack': WHATEVER THE INPUT: true; the input reads as it did. -/
def frameBackSpec : ChangeSpec := { name := "frameBack", fn := fun _ => fun
  | [d1, d2, d3] => { results := [.lit (.bool true)], args := [d1, d2, d3] }
  | _ => none }
def frameBackRow : OpenClaim := { program := "ythnellehndggpaa", sum := "3a7a8d5ed781e9209caeef6fae6c94909d8a3cf67364fe35e9a95d0fd62b1e3d", func := "changeling/changelinglaw04.FrameBack", spec := "frameBack", inPlace := ["internal/abi.NoEscape", "internal/bytealg.MakeNoZero"], apart := false }
def FrameBackSaid : Prop := frameBackRow.holds Try.pinned (OpenSpec.ofChange frameBackSpec)

/-- ITS FALSE NEIGHBOUR: 'it returns false'. Refute it at one input. -/
def frameBackWrong : ChangeSpec := { name := "frameBack", fn := fun _ => fun
  | [d1, d2, d3] => { results := [.lit (.bool false)], args := [d1, d2, d3] }
  | _ => none }
def FrameBackWrongFalsely : Prop := frameBackRow.holds Try.pinned (OpenSpec.ofChange frameBackWrong)

/-- 'changelinglaw04.FrameTorn': WHATEVER THE INPUT: true; the input reads as it did. -/
def frameTornSpec : ChangeSpec := { name := "frameTorn", fn := fun _ => fun
  | [d1, d2, d3, d4] => { results := [.lit (.bool true)], args := [d1, d2, d3, d4] }
  | _ => none }
def frameTornRow : OpenClaim := { program := "ythnellehndggpaa", sum := "3a7a8d5ed781e9209caeef6fae6c94909d8a3cf67364fe35e9a95d0fd62b1e3d", func := "changeling/changelinglaw04.FrameTorn", spec := "frameTorn", inPlace := ["internal/abi.NoEscape", "internal/bytealg.MakeNoZero"], apart := false }
def FrameTornSaid : Prop := frameTornRow.holds Try.pinned (OpenSpec.ofChange frameTornSpec)

/-- ITS FALSE NEIGHBOUR: 'it returns false'. Refute it at one input. -/
def frameTornWrong : ChangeSpec := { name := "frameTorn", fn := fun _ => fun
  | [d1, d2, d3, d4] => { results := [.lit (.bool false)], args := [d1, d2, d3, d4] }
  | _ => none }
def FrameTornWrongFalsely : Prop := frameTornRow.holds Try.pinned (OpenSpec.ofChange frameTornWrong)

/-- 'changelinglaw04.FrameEarly': WHATEVER THE INPUT: true; the input reads as it did. -/
def frameEarlySpec : ChangeSpec := { name := "frameEarly", fn := fun _ => fun
  | [d1, d2] => { results := [.lit (.bool true)], args := [d1, d2] }
  | _ => none }
def frameEarlyRow : OpenClaim := { program := "ythnellehndggpaa", sum := "3a7a8d5ed781e9209caeef6fae6c94909d8a3cf67364fe35e9a95d0fd62b1e3d", func := "changeling/changelinglaw04.FrameEarly", spec := "frameEarly", inPlace := ["internal/abi.NoEscape", "internal/bytealg.MakeNoZero"], unfollowed := true, recurses := true, apart := false }
def FrameEarlySaid : Prop := frameEarlyRow.holds Try.pinned (OpenSpec.ofChange frameEarlySpec)

/-- ITS FALSE NEIGHBOUR: 'it returns false'. Refute it at one input. -/
def frameEarlyWrong : ChangeSpec := { name := "frameEarly", fn := fun _ => fun
  | [d1, d2] => { results := [.lit (.bool false)], args := [d1, d2] }
  | _ => none }
def FrameEarlyWrongFalsely : Prop := frameEarlyRow.holds Try.pinned (OpenSpec.ofChange frameEarlyWrong)

/-- 'changelinglaw04.FrameTakes': WHATEVER THE INPUT: true; the input reads as it did. -/
def frameTakesSpec : ChangeSpec := { name := "frameTakes", fn := fun _ => fun
  | [d] => { results := [.lit (.bool true)], args := [d] }
  | _ => none }
def frameTakesRow : OpenClaim := { program := "ythnellehndggpaa", sum := "3a7a8d5ed781e9209caeef6fae6c94909d8a3cf67364fe35e9a95d0fd62b1e3d", func := "changeling/changelinglaw04.FrameTakes", spec := "frameTakes", inPlace := ["internal/abi.NoEscape", "internal/bytealg.MakeNoZero"], unfollowed := true, recurses := true, apart := false }
def FrameTakesSaid : Prop := frameTakesRow.holds Try.pinned (OpenSpec.ofChange frameTakesSpec)

/-- ITS FALSE NEIGHBOUR: 'it returns false'. Refute it at one input. -/
def frameTakesWrong : ChangeSpec := { name := "frameTakes", fn := fun _ => fun
  | [d] => { results := [.lit (.bool false)], args := [d] }
  | _ => none }
def FrameTakesWrongFalsely : Prop := frameTakesRow.holds Try.pinned (OpenSpec.ofChange frameTakesWrong)

/- THE SECOND FORM. 'bulk': how many values and letters a reading holds, each counted each time it is reached (what is shared counts as often as it is met; a slice's spare places count too). A statement '..UptoSaid' is the law's where the arguments, and the package variables that the reading takes, are together of bulk at most 1048576: NARROWER than '..Said'. Prove '..Said' where nothing that the law and all that it calls make is longer than what came in: it says more and counts as full. Else prove '..UptoSaid'. A law counts once. -/
mutual
def uptoBulk {H : Type} : DataW H → Nat
  | .lit (.string bytes) => bytes.length + 1
  | .lit _ => 1
  | .nil => 1
  | .ptr d => uptoBulk d + 1
  | .slice elems spare => uptoBulkAll elems + uptoBulkAll spare + 1
  | .agg parts => uptoBulkAll parts + 1
  | .iface _ d => uptoBulk d + 1
  | .map entries => uptoBulkEntries entries + 1
  | .held _ => 1
def uptoBulkAll {H : Type} : List (DataW H) → Nat
  | [] => 0
  | d :: r => uptoBulk d + uptoBulkAll r
def uptoBulkEntries {H : Type} : List (Lit × DataW H) → Nat
  | [] => 0
  | x :: r => uptoBulkEntry x + uptoBulkEntries r
def uptoBulkEntry {H : Type} : Lit × DataW H → Nat
  | (.string bytes, d) => bytes.length + uptoBulk d + 1
  | (_, d) => uptoBulk d + 1
 end
def uptoSmall : (H : Type) → List (DataW H) → Bool := fun _ ds => decide (uptoBulkAll ds ≤ 1048576)
def OpenSpec.upto (s : _root_.Go.ChangeSpec) : _root_.Go.OpenSpec := { _root_.Go.OpenSpec.ofChange s with cond := some uptoSmall }

/-- 'changelinglaw02.BytesPuts', WHERE WHAT IT READS IS OF BULK AT MOST 1048576: true; the input reads as it did. -/
def bytesPutsUptoRow : OpenClaim := { program := "ythnellehndggpaa", sum := "3a7a8d5ed781e9209caeef6fae6c94909d8a3cf67364fe35e9a95d0fd62b1e3d", func := "changeling/changelinglaw02.BytesPuts", spec := "bytesPuts", apart := false, narrowed := true }
def BytesPutsUptoSaid : Prop := bytesPutsUptoRow.holds Try.pinned (OpenSpec.upto bytesPutsSpec)

/-- 'changelinglaw02.BytesSizes', WHERE WHAT IT READS IS OF BULK AT MOST 1048576: true; the input reads as it did. -/
def bytesSizesUptoRow : OpenClaim := { program := "ythnellehndggpaa", sum := "3a7a8d5ed781e9209caeef6fae6c94909d8a3cf67364fe35e9a95d0fd62b1e3d", func := "changeling/changelinglaw02.BytesSizes", spec := "bytesSizes", unfollowed := true, recurses := true, apart := false, narrowed := true }
def BytesSizesUptoSaid : Prop := bytesSizesUptoRow.holds Try.pinned (OpenSpec.upto bytesSizesSpec)

/-- 'changelinglaw02.BytesOne', WHERE WHAT IT READS IS OF BULK AT MOST 1048576: true; the input reads as it did. -/
def bytesOneUptoRow : OpenClaim := { program := "ythnellehndggpaa", sum := "3a7a8d5ed781e9209caeef6fae6c94909d8a3cf67364fe35e9a95d0fd62b1e3d", func := "changeling/changelinglaw02.BytesOne", spec := "bytesOne", apart := false, narrowed := true }
def BytesOneUptoSaid : Prop := bytesOneUptoRow.holds Try.pinned (OpenSpec.upto bytesOneSpec)

/-- 'changelinglaw02.BytesTakes', WHERE WHAT IT READS IS OF BULK AT MOST 1048576: true; the input reads as it did. -/
def bytesTakesUptoRow : OpenClaim := { program := "ythnellehndggpaa", sum := "3a7a8d5ed781e9209caeef6fae6c94909d8a3cf67364fe35e9a95d0fd62b1e3d", func := "changeling/changelinglaw02.BytesTakes", spec := "bytesTakes", apart := false, narrowed := true }
def BytesTakesUptoSaid : Prop := bytesTakesUptoRow.holds Try.pinned (OpenSpec.upto bytesTakesSpec)

/-- 'changelinglaw02.BytesTexts', WHERE WHAT IT READS IS OF BULK AT MOST 1048576: true; the input reads as it did. -/
def bytesTextsUptoRow : OpenClaim := { program := "ythnellehndggpaa", sum := "3a7a8d5ed781e9209caeef6fae6c94909d8a3cf67364fe35e9a95d0fd62b1e3d", func := "changeling/changelinglaw02.BytesTexts", spec := "bytesTexts", inPlace := ["internal/abi.NoEscape", "internal/bytealg.MakeNoZero"], apart := false, narrowed := true }
def BytesTextsUptoSaid : Prop := bytesTextsUptoRow.holds Try.pinned (OpenSpec.upto bytesTextsSpec)

/-- 'changelinglaw02.BytesKnown', WHERE WHAT IT READS IS OF BULK AT MOST 1048576: true; the input reads as it did. -/
def bytesKnownUptoRow : OpenClaim := { program := "ythnellehndggpaa", sum := "3a7a8d5ed781e9209caeef6fae6c94909d8a3cf67364fe35e9a95d0fd62b1e3d", func := "changeling/changelinglaw02.BytesKnown", spec := "bytesKnown", inPlace := ["internal/abi.NoEscape", "internal/bytealg.MakeNoZero"], apart := false, narrowed := true }
def BytesKnownUptoSaid : Prop := bytesKnownUptoRow.holds Try.pinned (OpenSpec.upto bytesKnownSpec)

/-- 'changelinglaw02.BytesBack', WHERE WHAT IT READS IS OF BULK AT MOST 1048576: true; the input reads as it did. -/
def bytesBackUptoRow : OpenClaim := { program := "ythnellehndggpaa", sum := "3a7a8d5ed781e9209caeef6fae6c94909d8a3cf67364fe35e9a95d0fd62b1e3d", func := "changeling/changelinglaw02.BytesBack", spec := "bytesBack", inPlace := ["internal/abi.NoEscape", "internal/bytealg.MakeNoZero"], apart := false, narrowed := true }
def BytesBackUptoSaid : Prop := bytesBackUptoRow.holds Try.pinned (OpenSpec.upto bytesBackSpec)

/-- 'changelinglaw04.FrameKnown', WHERE WHAT IT READS IS OF BULK AT MOST 1048576: true; the input reads as it did. -/
def frameKnownUptoRow : OpenClaim := { program := "ythnellehndggpaa", sum := "3a7a8d5ed781e9209caeef6fae6c94909d8a3cf67364fe35e9a95d0fd62b1e3d", func := "changeling/changelinglaw04.FrameKnown", spec := "frameKnown", inPlace := ["internal/abi.NoEscape", "internal/bytealg.MakeNoZero"], apart := false, narrowed := true }
def FrameKnownUptoSaid : Prop := frameKnownUptoRow.holds Try.pinned (OpenSpec.upto frameKnownSpec)

/-- 'changelinglaw04.FramePuts', WHERE WHAT IT READS IS OF BULK AT MOST 1048576: true; the input reads as it did. -/
def framePutsUptoRow : OpenClaim := { program := "ythnellehndggpaa", sum := "3a7a8d5ed781e9209caeef6fae6c94909d8a3cf67364fe35e9a95d0fd62b1e3d", func := "changeling/changelinglaw04.FramePuts", spec := "framePuts", inPlace := ["internal/abi.NoEscape", "internal/bytealg.MakeNoZero"], apart := false, narrowed := true }
def FramePutsUptoSaid : Prop := framePutsUptoRow.holds Try.pinned (OpenSpec.upto framePutsSpec)

/-- 'changelinglaw04.FrameBack', WHERE WHAT IT READS IS OF BULK AT MOST 1048576: true; the input reads as it did. -/
def frameBackUptoRow : OpenClaim := { program := "ythnellehndggpaa", sum := "3a7a8d5ed781e9209caeef6fae6c94909d8a3cf67364fe35e9a95d0fd62b1e3d", func := "changeling/changelinglaw04.FrameBack", spec := "frameBack", inPlace := ["internal/abi.NoEscape", "internal/bytealg.MakeNoZero"], apart := false, narrowed := true }
def FrameBackUptoSaid : Prop := frameBackUptoRow.holds Try.pinned (OpenSpec.upto frameBackSpec)

/-- 'changelinglaw04.FrameTorn', WHERE WHAT IT READS IS OF BULK AT MOST 1048576: true; the input reads as it did. -/
def frameTornUptoRow : OpenClaim := { program := "ythnellehndggpaa", sum := "3a7a8d5ed781e9209caeef6fae6c94909d8a3cf67364fe35e9a95d0fd62b1e3d", func := "changeling/changelinglaw04.FrameTorn", spec := "frameTorn", inPlace := ["internal/abi.NoEscape", "internal/bytealg.MakeNoZero"], apart := false, narrowed := true }
def FrameTornUptoSaid : Prop := frameTornUptoRow.holds Try.pinned (OpenSpec.upto frameTornSpec)

/-- 'changelinglaw04.FrameEarly', WHERE WHAT IT READS IS OF BULK AT MOST 1048576: true; the input reads as it did. -/
def frameEarlyUptoRow : OpenClaim := { program := "ythnellehndggpaa", sum := "3a7a8d5ed781e9209caeef6fae6c94909d8a3cf67364fe35e9a95d0fd62b1e3d", func := "changeling/changelinglaw04.FrameEarly", spec := "frameEarly", inPlace := ["internal/abi.NoEscape", "internal/bytealg.MakeNoZero"], unfollowed := true, recurses := true, apart := false, narrowed := true }
def FrameEarlyUptoSaid : Prop := frameEarlyUptoRow.holds Try.pinned (OpenSpec.upto frameEarlySpec)

/-- 'changelinglaw04.FrameTakes', WHERE WHAT IT READS IS OF BULK AT MOST 1048576: true; the input reads as it did. -/
def frameTakesUptoRow : OpenClaim := { program := "ythnellehndggpaa", sum := "3a7a8d5ed781e9209caeef6fae6c94909d8a3cf67364fe35e9a95d0fd62b1e3d", func := "changeling/changelinglaw04.FrameTakes", spec := "frameTakes", inPlace := ["internal/abi.NoEscape", "internal/bytealg.MakeNoZero"], unfollowed := true, recurses := true, apart := false, narrowed := true }
def FrameTakesUptoSaid : Prop := frameTakesUptoRow.holds Try.pinned (OpenSpec.upto frameTakesSpec)

end Rows
end Go.Proofs.Ythnellehndggpaa
