/-
  THE STATEMENT ON OutputGrows: for every input the law returns true, and each argument reads behind the call as it read before. No condition.
-/
import Derived.Test.YtllecjhfbojgcaaRows
import Derived.Test.YtllecjhfbojgcaaOutGrowsWalk
import Derived.Test.YtllecjhfbojgcaaArgsOut
import Derived.WalkKit
import Derived.ProofKit
import Derived.OpenShut
import Derived.ShutString
import Derived.ChangeOld
import Derived.HandedShaped
import Derived.Below
namespace Go.Proofs.Ytllecjhfbojgcaa.outputGrows
open Go.ChangeShapes Go.WideShapes Go.ChangeAt Go.RowKit
set_option maxRecDepth 20000
open Go.ChangeMaps (open_string shut_string)
set_option maxRecDepth 20000
set_option linter.unusedVariables false

theorem own : ownKnob Try.prog.godebug = none := by kernel_rfl
theorem laidOut : laidOutB Try.prog = true := by kernel_rfl

set_option maxRecDepth 100000 in
theorem lifted (os : Os) (started : os.Started) (H : Type) (enc : TypeId × Value → H) :
    ReturnsInHanded {} Try.checked os 8 .any (Rows.outputGrowsSpec.pre6 enc Try.prog Try.f8 Rows.outputGrowsRow.domain false) (Rows.outputGrowsSpec.post enc Try.prog Try.f8 false true false false) := by
  refine returnsInHanded_of_change_shaped (C := Try.checked) own started (by kernel_rfl) Try.func8
    (ChangeSpec.witness6 (enc := enc) (C := Try.checked) false ⟨#[], #[.slice none 0 0], []⟩ 8 (by kernel_rfl) (by kernel_rfl) (by kernel_rfl) (by kernel_rfl)) ?_
  intro W base args ds gs before hval0 hW hcnd hsz0 hsh _
  have hval : ∀ (j : Nat) t v, Try.f8.params[j]? = some t → args[j]? = some v → Value.okWide Try.prog W .any base t v := hval0
  have hW' := hW
  obtain ⟨p, q, hA0, hV, rfl, hfz, hnd⟩ := hW
  have hA : DataW.TrodAll enc Try.prog W 0 (fun _ => true) true Try.f8.params.toList args.toList ds p := hA0
  have hsz : (DataW.weightsEach Try.prog (Try.f8.params.toList ++ Rows.outputGrowsSpec.plain.varTypes Try.prog) (ds ++ gs)).all (· ≤ reachBytes) = true := hsz0
  rw [Try.params8] at hA hval hsz
  obtain ⟨v0, vs0, d0, ds0, p0, q0, hargs, rfl, rfl, h0, r0⟩ := trodAll_cons hA
  obtain ⟨rfl, rfl, rfl⟩ := trodAll_nil r0
  obtain rfl : args = #[v0] := by cases args; simp_all
  obtain ⟨rfl, rfl⟩ := trodVars_none hV
  obtain ⟨b0, l0, c0, rfl⟩ := okWide_slice Try.underlying68 (hval 0 68 v0 rfl rfl)
  have k0 := h0
  have lt0 : ∀ x ∈ p0, x.block < W.heap.size := by obtain ⟨m, hm⟩ := k0; exact DataW.trod_lt m _ _ _ hm
  obtain ⟨a0, r0r, r0w, s0⟩ : ∃ l : List Gop, Reads W _ l.length (gopCells l) ∧ (∀ r ∈ l, GopIn W r) ∧ (l = [] ∨ ∃ es sp, d0 = .slice es sp ∧ l.length = es.length) := by
    obtain ⟨fuel, hf⟩ := h0
    exact reads_gops Try.underlying68 Try.underlying76 (by kernel_rfl) (by kernel_rfl) Try.underlying3 Try.underlying3 Try.underlying3 Try.underlying2 Try.underlying73 Try.underlying84 (by kernel_rfl) Try.underlying2 Try.underlying2 rfl rfl (by kernel_rfl) (by kernel_rfl) hf
  have z0 : a0.length ≤ 140737488355328 := by
    rcases s0 with e | ⟨es, sp, e, hs⟩
    · rw [e]; exact Nat.zero_le _
    · have := sized_slice hsz (j := 0) (t := 68) (e := 76) rfl (by rw [e]; rfl) Try.underlying68
      have hb : Try.prog.bytesOf 76 = 56 := by kernel_rfl
      rw [hb] at this
      unfold reachBytes at this
      omega
  clear hA0 hval0
  refine (outputGrows_walk _ a0 W z0 r0r r0w).mono fun e W' ⟨he, bel⟩ => ?_
  subst he
  exact ⟨_, rfl, _, _, _, [], _, [], hW', trodAll_mk1 (shut_bool Try.underlying4 _), (trodAll_cons_mk (Below.trod laidOut (by kernel_rfl) (of_decide_eq_true (by kernel_rfl)) k0 bel lt0) trodAll_mk0), rfl, bel.frame _, fun h => by cases h⟩

theorem over : Rows.outputGrowsRow.holds Try.pinned (OpenSpec.ofChange Rows.outputGrowsSpec) :=
  OpenClaim.holds_of_wide 8 Try.f8 rfl rfl rfl rfl rfl rfl rfl ⟨rfl, rfl, rfl, rfl, rfl⟩ rfl rfl rfl rfl rfl (by kernel_rfl) Try.func8 (by kernel_rfl)
    (of_decide_eq_true (by kernel_rfl)) (by unfold Func.isWrapper; first | (rw [if_pos (by decide +kernel)]; kernel_rfl) | (rw [if_neg (by decide +kernel)]; exact ⟨rfl, rfl⟩))
    (fun os started H enc _ => lifted os started H enc)

/-- THE STATEMENT. -/
theorem proved : Rows.OutputGrowsSaid := over
end Go.Proofs.Ytllecjhfbojgcaa.outputGrows
