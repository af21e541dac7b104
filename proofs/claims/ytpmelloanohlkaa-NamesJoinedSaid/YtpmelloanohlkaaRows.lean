/-
  No cell of these rows narrows 'for every input' (looked for: loops, veiled, ifaces, maps, wideKeys, modest, calm, conditions, laid).
  DERIVED. THE GIVEN ROWS OF THIS SEAT. 6 by the template 'for every input the law returns true; each argument reads behind the call as it read before'; 0 by the template 'total and deterministic' (their statements: YtpmelloanohlkaaTotals.lean).
  GIVEN WITH THE SEED: the statements are not yours to turn. If you find one false, say at which input.
  Laid BY PROGRAM, IN A SANDBOX (cutbox-rows.mjs): the forced cells as the released guide's own fill.sh prints them over the translation 2a1f6b3253a5d73f… (all of the seat's roots in one cut). By AI agents, Wed Nov 11 2026. No macro, syntax, notation, axiom, sorry.
-/
import Derived.Test.YtpmelloanohlkaaChecked
import GoSem.Claim
import GoSem.ClaimJoined
import GoSem.ClaimMapViews
import Derived.JoinedTies
import Derived.KernelRfl
namespace Go.Proofs.Ytpmelloanohlkaa
/- THE CELL 'sum', in the pinned program and in every row, IS THE sha256 OF THE DUMP (.gsa) THAT YtpmelloanohlkaaProg.lean LOADS. Nothing in Lean hashes anything: it is a label: what it is worth is what the hold of that sum in a sandbox is worth. -/
noncomputable def Try.pinned : Pinned := { name := "ytpmelloanohlkaa", sum := "2a1f6b3253a5d73f34e94a3df0f568f7f5b593f41003e2c9ea8fa5a76f5e249c", checked := Try.checked }
namespace Rows
def none {H : Type} : Left H := { results := [], args := [] }

/-- 'changelinglaw01.NamesWords': WHATEVER THE INPUT: true; the input reads as it did. -/
def namesWordsSpec : ChangeSpec := { name := "namesWords", fn := fun _ => fun
  | [d] => { results := [.lit (.bool true)], args := [d] }
  | _ => none }
def namesWordsRow : OpenClaim := { program := "ytpmelloanohlkaa", sum := "2a1f6b3253a5d73f34e94a3df0f568f7f5b593f41003e2c9ea8fa5a76f5e249c", func := "changeling/changelinglaw01.NamesWords", spec := "namesWords", apart := false }
def NamesWordsSaid : Prop := namesWordsRow.holds Try.pinned (OpenSpec.ofChange namesWordsSpec)

/-- ITS FALSE NEIGHBOUR: 'it returns false'. Refute it at one input. -/
def namesWordsWrong : ChangeSpec := { name := "namesWords", fn := fun _ => fun
  | [d] => { results := [.lit (.bool false)], args := [d] }
  | _ => none }
def NamesWordsWrongFalsely : Prop := namesWordsRow.holds Try.pinned (OpenSpec.ofChange namesWordsWrong)

/-- 'changelinglaw01.NamesAts': WHATEVER THE INPUT: true; the input reads as it did. -/
def namesAtsSpec : ChangeSpec := { name := "namesAts", fn := fun _ => fun
  | [d1, d2] => { results := [.lit (.bool true)], args := [d1, d2] }
  | _ => none }
def namesAtsRow : OpenClaim := { program := "ytpmelloanohlkaa", sum := "2a1f6b3253a5d73f34e94a3df0f568f7f5b593f41003e2c9ea8fa5a76f5e249c", func := "changeling/changelinglaw01.NamesAts", spec := "namesAts", apart := false }
def NamesAtsSaid : Prop := namesAtsRow.holds Try.pinned (OpenSpec.ofChange namesAtsSpec)

/-- ITS FALSE NEIGHBOUR: 'it returns false'. Refute it at one input. -/
def namesAtsWrong : ChangeSpec := { name := "namesAts", fn := fun _ => fun
  | [d1, d2] => { results := [.lit (.bool false)], args := [d1, d2] }
  | _ => none }
def NamesAtsWrongFalsely : Prop := namesAtsRow.holds Try.pinned (OpenSpec.ofChange namesAtsWrong)

/-- 'changelinglaw01.NamesNames': WHATEVER THE INPUT: true; the input reads as it did. -/
def namesNamesSpec : ChangeSpec := { name := "namesNames", fn := fun _ => fun
  | [d] => { results := [.lit (.bool true)], args := [d] }
  | _ => none }
def namesNamesRow : OpenClaim := { program := "ytpmelloanohlkaa", sum := "2a1f6b3253a5d73f34e94a3df0f568f7f5b593f41003e2c9ea8fa5a76f5e249c", func := "changeling/changelinglaw01.NamesNames", spec := "namesNames", apart := false }
def NamesNamesSaid : Prop := namesNamesRow.holds Try.pinned (OpenSpec.ofChange namesNamesSpec)

/-- ITS FALSE NEIGHBOUR: 'it returns false'. Refute it at one input. -/
def namesNamesWrong : ChangeSpec := { name := "namesNames", fn := fun _ => fun
  | [d] => { results := [.lit (.bool false)], args := [d] }
  | _ => none }
def NamesNamesWrongFalsely : Prop := namesNamesRow.holds Try.pinned (OpenSpec.ofChange namesNamesWrong)

/-- 'changelinglaw01.NamesOnly': WHATEVER THE INPUT: true; the input reads as it did. -/
def namesOnlySpec : ChangeSpec := { name := "namesOnly", fn := fun _ => fun
  | [d] => { results := [.lit (.bool true)], args := [d] }
  | _ => none }
def namesOnlyRow : OpenClaim := { program := "ytpmelloanohlkaa", sum := "2a1f6b3253a5d73f34e94a3df0f568f7f5b593f41003e2c9ea8fa5a76f5e249c", func := "changeling/changelinglaw01.NamesOnly", spec := "namesOnly", apart := false }
def NamesOnlySaid : Prop := namesOnlyRow.holds Try.pinned (OpenSpec.ofChange namesOnlySpec)

/-- ITS FALSE NEIGHBOUR: 'it returns false'. Refute it at one input. -/
def namesOnlyWrong : ChangeSpec := { name := "namesOnly", fn := fun _ => fun
  | [d] => { results := [.lit (.bool false)], args := [d] }
  | _ => none }
def NamesOnlyWrongFalsely : Prop := namesOnlyRow.holds Try.pinned (OpenSpec.ofChange namesOnlyWrong)

/-- 'changelinglaw01.NamesKnown': WHATEVER THE INPUT: true; the input reads as it did. -/
def namesKnownSpec : ChangeSpec := { name := "namesKnown", fn := fun _ => fun
  | [] => { results := [.lit (.bool true)], args := [] }
  | _ => none }
def namesKnownRow : OpenClaim := { program := "ytpmelloanohlkaa", sum := "2a1f6b3253a5d73f34e94a3df0f568f7f5b593f41003e2c9ea8fa5a76f5e249c", func := "changeling/changelinglaw01.NamesKnown", spec := "namesKnown", apart := false }
def NamesKnownSaid : Prop := namesKnownRow.holds Try.pinned (OpenSpec.ofChange namesKnownSpec)

/-- ITS FALSE NEIGHBOUR: 'it returns false'. Refute it at one input. -/
def namesKnownWrong : ChangeSpec := { name := "namesKnown", fn := fun _ => fun
  | [] => { results := [.lit (.bool false)], args := [] }
  | _ => none }
def NamesKnownWrongFalsely : Prop := namesKnownRow.holds Try.pinned (OpenSpec.ofChange namesKnownWrong)

/-- 'changelinglaw01.NamesJoined': WHATEVER THE INPUT: true; the input reads as it did. -/
def namesJoinedSpec : ChangeSpec := { name := "namesJoined", fn := fun _ => fun
  | [d1, d2] => { results := [.lit (.bool true)], args := [d1, d2] }
  | _ => none }
def namesJoinedRow : OpenClaim := { program := "ytpmelloanohlkaa", sum := "2a1f6b3253a5d73f34e94a3df0f568f7f5b593f41003e2c9ea8fa5a76f5e249c", func := "changeling/changelinglaw01.NamesJoined", spec := "namesJoined", inPlace := ["internal/abi.NoEscape", "internal/bytealg.MakeNoZero"], apart := false }
def NamesJoinedSaid : Prop := namesJoinedRow.holds Try.pinned (OpenSpec.ofChange namesJoinedSpec)

/-- ITS FALSE NEIGHBOUR: 'it returns false'. Refute it at one input. -/
def namesJoinedWrong : ChangeSpec := { name := "namesJoined", fn := fun _ => fun
  | [d1, d2] => { results := [.lit (.bool false)], args := [d1, d2] }
  | _ => none }
def NamesJoinedWrongFalsely : Prop := namesJoinedRow.holds Try.pinned (OpenSpec.ofChange namesJoinedWrong)

/- THE SECOND FORM. 'bulk': how many values and letters a reading holds, each counted each time it is reached (what is shared counts as often as it is met; a slice's spare places count too). A statement '..UptoSaid' is the law's where the arguments, and the package variables that the reading takes, are together of bulk at most 1048576: NARROWER than '..Said'. Prove '..Said' where nothing that the law and all that it calls make is longer than what came in: it says more and counts as full. Else prove '..UptoSaid'. A law counts once. -/
mutual
def uptoBulk {H : Type} : DataW H → Nat
  | .lit (.string bytes) => bytes.length + 1
  | .lit _ => 1
  | .nil => 1
  | .ptr d => uptoBulk d + 1
  | .slice elems spare => uptoBulkAll elems + uptoBulkAll spare + 1
  | .agg parts => uptoBulkAll parts + 1
  | .iface _ d => uptoBulk d + 1
  | .map entries => uptoBulkEntries entries + 1
  | .held _ => 1
def uptoBulkAll {H : Type} : List (DataW H) → Nat
  | [] => 0
  | d :: r => uptoBulk d + uptoBulkAll r
def uptoBulkEntries {H : Type} : List (Lit × DataW H) → Nat
  | [] => 0
  | x :: r => uptoBulkEntry x + uptoBulkEntries r
def uptoBulkEntry {H : Type} : Lit × DataW H → Nat
  | (.string bytes, d) => bytes.length + uptoBulk d + 1
  | (_, d) => uptoBulk d + 1
 end
def uptoSmall : (H : Type) → List (DataW H) → Bool := fun _ ds => decide (uptoBulkAll ds ≤ 1048576)
def OpenSpec.upto (s : _root_.Go.ChangeSpec) : _root_.Go.OpenSpec := { _root_.Go.OpenSpec.ofChange s with cond := some uptoSmall }

/-- 'changelinglaw01.NamesWords', WHERE WHAT IT READS IS OF BULK AT MOST 1048576: true; the input reads as it did. -/
def namesWordsUptoRow : OpenClaim := { program := "ytpmelloanohlkaa", sum := "2a1f6b3253a5d73f34e94a3df0f568f7f5b593f41003e2c9ea8fa5a76f5e249c", func := "changeling/changelinglaw01.NamesWords", spec := "namesWords", apart := false, narrowed := true }
def NamesWordsUptoSaid : Prop := namesWordsUptoRow.holds Try.pinned (OpenSpec.upto namesWordsSpec)

/-- 'changelinglaw01.NamesAts', WHERE WHAT IT READS IS OF BULK AT MOST 1048576: true; the input reads as it did. -/
def namesAtsUptoRow : OpenClaim := { program := "ytpmelloanohlkaa", sum := "2a1f6b3253a5d73f34e94a3df0f568f7f5b593f41003e2c9ea8fa5a76f5e249c", func := "changeling/changelinglaw01.NamesAts", spec := "namesAts", apart := false, narrowed := true }
def NamesAtsUptoSaid : Prop := namesAtsUptoRow.holds Try.pinned (OpenSpec.upto namesAtsSpec)

/-- 'changelinglaw01.NamesNames', WHERE WHAT IT READS IS OF BULK AT MOST 1048576: true; the input reads as it did. -/
def namesNamesUptoRow : OpenClaim := { program := "ytpmelloanohlkaa", sum := "2a1f6b3253a5d73f34e94a3df0f568f7f5b593f41003e2c9ea8fa5a76f5e249c", func := "changeling/changelinglaw01.NamesNames", spec := "namesNames", apart := false, narrowed := true }
def NamesNamesUptoSaid : Prop := namesNamesUptoRow.holds Try.pinned (OpenSpec.upto namesNamesSpec)

/-- 'changelinglaw01.NamesOnly', WHERE WHAT IT READS IS OF BULK AT MOST 1048576: true; the input reads as it did. -/
def namesOnlyUptoRow : OpenClaim := { program := "ytpmelloanohlkaa", sum := "2a1f6b3253a5d73f34e94a3df0f568f7f5b593f41003e2c9ea8fa5a76f5e249c", func := "changeling/changelinglaw01.NamesOnly", spec := "namesOnly", apart := false, narrowed := true }
def NamesOnlyUptoSaid : Prop := namesOnlyUptoRow.holds Try.pinned (OpenSpec.upto namesOnlySpec)

/-- 'changelinglaw01.NamesKnown', WHERE WHAT IT READS IS OF BULK AT MOST 1048576: true; the input reads as it did. -/
def namesKnownUptoRow : OpenClaim := { program := "ytpmelloanohlkaa", sum := "2a1f6b3253a5d73f34e94a3df0f568f7f5b593f41003e2c9ea8fa5a76f5e249c", func := "changeling/changelinglaw01.NamesKnown", spec := "namesKnown", apart := false, narrowed := true }
def NamesKnownUptoSaid : Prop := namesKnownUptoRow.holds Try.pinned (OpenSpec.upto namesKnownSpec)

/-- 'changelinglaw01.NamesJoined', WHERE WHAT IT READS IS OF BULK AT MOST 1048576: true; the input reads as it did. -/
def namesJoinedUptoRow : OpenClaim := { program := "ytpmelloanohlkaa", sum := "2a1f6b3253a5d73f34e94a3df0f568f7f5b593f41003e2c9ea8fa5a76f5e249c", func := "changeling/changelinglaw01.NamesJoined", spec := "namesJoined", inPlace := ["internal/abi.NoEscape", "internal/bytealg.MakeNoZero"], apart := false, narrowed := true }
def NamesJoinedUptoSaid : Prop := namesJoinedUptoRow.holds Try.pinned (OpenSpec.upto namesJoinedSpec)

end Rows
end Go.Proofs.Ytpmelloanohlkaa
