/-
  No cell of these rows narrows 'for every input' (looked for: loops, veiled, ifaces, maps, wideKeys, modest, calm, conditions, laid).
  DERIVED. THE GIVEN ROWS OF THIS SEAT. 4 by the template 'for every input the law returns true; each argument reads behind the call as it read before'; 0 by the template 'total and deterministic' (their statements: YtdkhidajmhmjpaaTotals.lean).
  GIVEN WITH THE SEED: the statements are not yours to turn. If you find one false, say at which input.
  Laid BY PROGRAM, IN A SANDBOX (cutbox-rows.mjs): the forced cells as the released guide's own fill.sh prints them over the translation ba332393055f6d2c… (all of the seat's roots in one cut). By AI agents, Wed Nov 11 2026. No macro, syntax, notation, axiom, sorry.
-/
import Derived.Test.YtdkhidajmhmjpaaChecked
import GoSem.Claim
import GoSem.ClaimJoined
import GoSem.ClaimMapViews
import Derived.JoinedTies
import Derived.KernelRfl
namespace Go.Proofs.Ytdkhidajmhmjpaa
/- THE CELL 'sum', in the pinned program and in every row, IS THE sha256 OF THE DUMP (.gsa) THAT YtdkhidajmhmjpaaProg.lean LOADS. Nothing in Lean hashes anything: it is a label: what it is worth is what the hold of that sum in a sandbox is worth. -/
noncomputable def Try.pinned : Pinned := { name := "ytdkhidajmhmjpaa", sum := "ba332393055f6d2cd474cb7c44e3d117fe0352d893036a4584d1428c541ef3d9", checked := Try.checked }
namespace Rows
def none {H : Type} : Left H := { results := [], args := [] }

/-- 'changelinglaw06.LogSure': WHATEVER THE INPUT: true; the input reads as it did. -/
def logSureSpec : ChangeSpec := { name := "logSure", fn := fun _ => fun
  | [d1, d2] => { results := [.lit (.bool true)], args := [d1, d2] }
  | _ => none }
def logSureRow : OpenClaim := { program := "ytdkhidajmhmjpaa", sum := "ba332393055f6d2cd474cb7c44e3d117fe0352d893036a4584d1428c541ef3d9", func := "changeling/changelinglaw06.LogSure", spec := "logSure", inPlace := ["internal/abi.NoEscape", "internal/bytealg.MakeNoZero"], unfollowed := true, recurses := true, apart := false }
def LogSureSaid : Prop := logSureRow.holds Try.pinned (OpenSpec.ofChange logSureSpec)

/-- ITS FALSE NEIGHBOUR: 'it returns false'. Refute it at one input. -/
def logSureWrong : ChangeSpec := { name := "logSure", fn := fun _ => fun
  | [d1, d2] => { results := [.lit (.bool false)], args := [d1, d2] }
  | _ => none }
def LogSureWrongFalsely : Prop := logSureRow.holds Try.pinned (OpenSpec.ofChange logSureWrong)

/-- 'changelinglaw06.LogKnown': WHATEVER THE INPUT: true; the input reads as it did. -/
def logKnownSpec : ChangeSpec := { name := "logKnown", fn := fun _ => fun
  | [] => { results := [.lit (.bool true)], args := [] }
  | _ => none }
def logKnownRow : OpenClaim := { program := "ytdkhidajmhmjpaa", sum := "ba332393055f6d2cd474cb7c44e3d117fe0352d893036a4584d1428c541ef3d9", func := "changeling/changelinglaw06.LogKnown", spec := "logKnown", inPlace := ["internal/abi.NoEscape", "internal/bytealg.MakeNoZero"], unfollowed := true, recurses := true, apart := false }
def LogKnownSaid : Prop := logKnownRow.holds Try.pinned (OpenSpec.ofChange logKnownSpec)

/-- ITS FALSE NEIGHBOUR: 'it returns false'. Refute it at one input. -/
def logKnownWrong : ChangeSpec := { name := "logKnown", fn := fun _ => fun
  | [] => { results := [.lit (.bool false)], args := [] }
  | _ => none }
def LogKnownWrongFalsely : Prop := logKnownRow.holds Try.pinned (OpenSpec.ofChange logKnownWrong)

/-- 'changelinglaw06.LogRow': WHATEVER THE INPUT: true; the input reads as it did. -/
def logRowSpec : ChangeSpec := { name := "logRow", fn := fun _ => fun
  | [d] => { results := [.lit (.bool true)], args := [d] }
  | _ => none }
def logRowRow : OpenClaim := { program := "ytdkhidajmhmjpaa", sum := "ba332393055f6d2cd474cb7c44e3d117fe0352d893036a4584d1428c541ef3d9", func := "changeling/changelinglaw06.LogRow", spec := "logRow", inPlace := ["internal/abi.NoEscape", "internal/bytealg.MakeNoZero"], unfollowed := true, recurses := true, apart := false }
def LogRowSaid : Prop := logRowRow.holds Try.pinned (OpenSpec.ofChange logRowSpec)

/-- ITS FALSE NEIGHBOUR: 'it returns false'. Refute it at one input. -/
def logRowWrong : ChangeSpec := { name := "logRow", fn := fun _ => fun
  | [d] => { results := [.lit (.bool false)], args := [d] }
  | _ => none }
def LogRowWrongFalsely : Prop := logRowRow.holds Try.pinned (OpenSpec.ofChange logRowWrong)

/-- 'changelinglaw06.LogKept': WHATEVER THE INPUT: true; the input reads as it did. -/
def logKeptSpec : ChangeSpec := { name := "logKept", fn := fun _ => fun
  | [d1, d2, d3, d4] => { results := [.lit (.bool true)], args := [d1, d2, d3, d4] }
  | _ => none }
def logKeptRow : OpenClaim := { program := "ytdkhidajmhmjpaa", sum := "ba332393055f6d2cd474cb7c44e3d117fe0352d893036a4584d1428c541ef3d9", func := "changeling/changelinglaw06.LogKept", spec := "logKept", inPlace := ["internal/abi.NoEscape", "internal/bytealg.MakeNoZero"], unfollowed := true, recurses := true, apart := false }
def LogKeptSaid : Prop := logKeptRow.holds Try.pinned (OpenSpec.ofChange logKeptSpec)

/-- ITS FALSE NEIGHBOUR: 'it returns false'. Refute it at one input. -/
def logKeptWrong : ChangeSpec := { name := "logKept", fn := fun _ => fun
  | [d1, d2, d3, d4] => { results := [.lit (.bool false)], args := [d1, d2, d3, d4] }
  | _ => none }
def LogKeptWrongFalsely : Prop := logKeptRow.holds Try.pinned (OpenSpec.ofChange logKeptWrong)

/- THE SECOND FORM. 'bulk': how many values and letters a reading holds, each counted each time it is reached (what is shared counts as often as it is met; a slice's spare places count too). A statement '..UptoSaid' is the law's where the arguments, and the package variables that the reading takes, are together of bulk at most 1048576: NARROWER than '..Said'. Prove '..Said' where nothing that the law and all that it calls make is longer than what came in: it says more and counts as full. Else prove '..UptoSaid'. A law counts once. -/
mutual
def uptoBulk {H : Type} : DataW H → Nat
  | .lit (.string bytes) => bytes.length + 1
  | .lit _ => 1
  | .nil => 1
  | .ptr d => uptoBulk d + 1
  | .slice elems spare => uptoBulkAll elems + uptoBulkAll spare + 1
  | .agg parts => uptoBulkAll parts + 1
  | .iface _ d => uptoBulk d + 1
  | .map entries => uptoBulkEntries entries + 1
  | .held _ => 1
def uptoBulkAll {H : Type} : List (DataW H) → Nat
  | [] => 0
  | d :: r => uptoBulk d + uptoBulkAll r
def uptoBulkEntries {H : Type} : List (Lit × DataW H) → Nat
  | [] => 0
  | x :: r => uptoBulkEntry x + uptoBulkEntries r
def uptoBulkEntry {H : Type} : Lit × DataW H → Nat
  | (.string bytes, d) => bytes.length + uptoBulk d + 1
  | (_, d) => uptoBulk d + 1
 end
def uptoSmall : (H : Type) → List (DataW H) → Bool := fun _ ds => decide (uptoBulkAll ds ≤ 1048576)
def OpenSpec.upto (s : _root_.Go.ChangeSpec) : _root_.Go.OpenSpec := { _root_.Go.OpenSpec.ofChange s with cond := some uptoSmall }

/-- 'changelinglaw06.LogSure', WHERE WHAT IT READS IS OF BULK AT MOST 1048576: true; the input reads as it did. -/
def logSureUptoRow : OpenClaim := { program := "ytdkhidajmhmjpaa", sum := "ba332393055f6d2cd474cb7c44e3d117fe0352d893036a4584d1428c541ef3d9", func := "changeling/changelinglaw06.LogSure", spec := "logSure", inPlace := ["internal/abi.NoEscape", "internal/bytealg.MakeNoZero"], unfollowed := true, recurses := true, apart := false, narrowed := true }
def LogSureUptoSaid : Prop := logSureUptoRow.holds Try.pinned (OpenSpec.upto logSureSpec)

/-- 'changelinglaw06.LogKnown', WHERE WHAT IT READS IS OF BULK AT MOST 1048576: true; the input reads as it did. -/
def logKnownUptoRow : OpenClaim := { program := "ytdkhidajmhmjpaa", sum := "ba332393055f6d2cd474cb7c44e3d117fe0352d893036a4584d1428c541ef3d9", func := "changeling/changelinglaw06.LogKnown", spec := "logKnown", inPlace := ["internal/abi.NoEscape", "internal/bytealg.MakeNoZero"], unfollowed := true, recurses := true, apart := false, narrowed := true }
def LogKnownUptoSaid : Prop := logKnownUptoRow.holds Try.pinned (OpenSpec.upto logKnownSpec)

/-- 'changelinglaw06.LogRow', WHERE WHAT IT READS IS OF BULK AT MOST 1048576: true; the input reads as it did. -/
def logRowUptoRow : OpenClaim := { program := "ytdkhidajmhmjpaa", sum := "ba332393055f6d2cd474cb7c44e3d117fe0352d893036a4584d1428c541ef3d9", func := "changeling/changelinglaw06.LogRow", spec := "logRow", inPlace := ["internal/abi.NoEscape", "internal/bytealg.MakeNoZero"], unfollowed := true, recurses := true, apart := false, narrowed := true }
def LogRowUptoSaid : Prop := logRowUptoRow.holds Try.pinned (OpenSpec.upto logRowSpec)

/-- 'changelinglaw06.LogKept', WHERE WHAT IT READS IS OF BULK AT MOST 1048576: true; the input reads as it did. -/
def logKeptUptoRow : OpenClaim := { program := "ytdkhidajmhmjpaa", sum := "ba332393055f6d2cd474cb7c44e3d117fe0352d893036a4584d1428c541ef3d9", func := "changeling/changelinglaw06.LogKept", spec := "logKept", inPlace := ["internal/abi.NoEscape", "internal/bytealg.MakeNoZero"], unfollowed := true, recurses := true, apart := false, narrowed := true }
def LogKeptUptoSaid : Prop := logKeptUptoRow.holds Try.pinned (OpenSpec.upto logKeptSpec)

end Rows
end Go.Proofs.Ytdkhidajmhmjpaa
