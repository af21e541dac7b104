/-
  THE STATEMENT ON OutputBoth: for every input the law returns true, and each argument reads behind the call as it read before. No condition.
-/
import Derived.Test.YtllecjhfbojgcaaRows
import Derived.Test.YtllecjhfbojgcaaOutBothWalk
import Derived.Test.YtllecjhfbojgcaaArgsOut
import Derived.WalkKit
import Derived.ProofKit
import Derived.OpenShut
import Derived.ShutString
import Derived.ChangeOld
import Derived.HandedShaped
import Derived.Below
namespace Go.Proofs.Ytllecjhfbojgcaa.outputBoth
open Go.ChangeShapes Go.WideShapes Go.ChangeAt Go.RowKit
set_option maxRecDepth 20000
open Go.ChangeMaps (open_string shut_string)
set_option maxRecDepth 20000
set_option linter.unusedVariables false

theorem own : ownKnob Try.prog.godebug = none := by kernel_rfl
theorem laidOut : laidOutB Try.prog = true := by kernel_rfl

set_option maxRecDepth 100000 in
theorem lifted (os : Os) (started : os.Started) (H : Type) (enc : TypeId × Value → H) :
    ReturnsInHanded {} Try.checked os 9 .any (Rows.outputBothSpec.pre6 enc Try.prog Try.f9 Rows.outputBothRow.domain false) (Rows.outputBothSpec.post enc Try.prog Try.f9 false true false false) := by
  refine returnsInHanded_of_change_shaped (C := Try.checked) own started (by kernel_rfl) Try.func9
    (ChangeSpec.witness6 (enc := enc) (C := Try.checked) false ⟨#[], #[.slice none 0 0, .slice none 0 0, .int .i64 0, .int .i64 0, .int .i64 0], []⟩ 8 (by kernel_rfl) (by kernel_rfl) (by kernel_rfl) (by kernel_rfl)) ?_
  intro W base args ds gs before hval0 hW hcnd hsz0 hsh _
  have hval : ∀ (j : Nat) t v, Try.f9.params[j]? = some t → args[j]? = some v → Value.okWide Try.prog W .any base t v := hval0
  have hW' := hW
  obtain ⟨p, q, hA0, hV, rfl, hfz, hnd⟩ := hW
  have hA : DataW.TrodAll enc Try.prog W 0 (fun _ => true) true Try.f9.params.toList args.toList ds p := hA0
  have hsz : (DataW.weightsEach Try.prog (Try.f9.params.toList ++ Rows.outputBothSpec.plain.varTypes Try.prog) (ds ++ gs)).all (· ≤ reachBytes) = true := hsz0
  rw [Try.params9] at hA hval hsz
  obtain ⟨v0, vs0, d0, ds0, p0, q0, hargs, rfl, rfl, h0, r0⟩ := trodAll_cons hA
  obtain ⟨v1, vs1, d1, ds1, p1, q1, rfl, rfl, rfl, h1, r1⟩ := trodAll_cons r0
  obtain ⟨v2, vs2, d2, ds2, p2, q2, rfl, rfl, rfl, h2, r2⟩ := trodAll_cons r1
  obtain ⟨v3, vs3, d3, ds3, p3, q3, rfl, rfl, rfl, h3, r3⟩ := trodAll_cons r2
  obtain ⟨v4, vs4, d4, ds4, p4, q4, rfl, rfl, rfl, h4, r4⟩ := trodAll_cons r3
  obtain ⟨rfl, rfl, rfl⟩ := trodAll_nil r4
  obtain rfl : args = #[v0, v1, v2, v3, v4] := by cases args; simp_all
  obtain ⟨rfl, rfl⟩ := trodVars_none hV
  have o0 := okWide_slice_lt Try.underlying73 (hval 0 73 v0 rfl rfl)
  obtain ⟨b0, l0, c0, rfl⟩ := okWide_slice Try.underlying73 (hval 0 73 v0 rfl rfl)
  have k0 := h0
  have lt0 : ∀ x ∈ p0, x.block < W.heap.size := by obtain ⟨m, hm⟩ := k0; exact DataW.trod_lt m _ _ _ hm
  obtain ⟨a0, r0r, r0w, s0⟩ : ∃ l : List OutX, Reads W _ l.length (outCells l) ∧ (∀ r ∈ l, (Lit.int .i64 r.key).wf = true ∧ (Lit.int .i64 r.val).wf = true) ∧ (l = [] ∨ ∃ es sp, d0 = .slice es sp ∧ l.length = es.length) := by
    obtain ⟨fuel, hf⟩ := h0
    exact reads_outs Try.underlying73 Try.underlying84 (by kernel_rfl) Try.underlying2 Try.underlying2 rfl rfl (by kernel_rfl) (by kernel_rfl) hf
  have z0 : a0.length ≤ 140737488355328 := by
    rcases s0 with e | ⟨es, sp, e, hs⟩
    · rw [e]; exact Nat.zero_le _
    · have := sized_slice hsz (j := 0) (t := 73) (e := 84) rfl (by rw [e]; rfl) Try.underlying73
      have hb : Try.prog.bytesOf 84 = 16 := by kernel_rfl
      rw [hb] at this
      unfold reachBytes at this
      omega
  have o1 := okWide_slice_lt Try.underlying73 (hval 1 73 v1 rfl rfl)
  obtain ⟨b1, l1, c1, rfl⟩ := okWide_slice Try.underlying73 (hval 1 73 v1 rfl rfl)
  have k1 := h1
  have lt1 : ∀ x ∈ p1, x.block < W.heap.size := by obtain ⟨m, hm⟩ := k1; exact DataW.trod_lt m _ _ _ hm
  obtain ⟨a1, r1r, r1w, s1⟩ : ∃ l : List OutX, Reads W _ l.length (outCells l) ∧ (∀ r ∈ l, (Lit.int .i64 r.key).wf = true ∧ (Lit.int .i64 r.val).wf = true) ∧ (l = [] ∨ ∃ es sp, d1 = .slice es sp ∧ l.length = es.length) := by
    obtain ⟨fuel, hf⟩ := h1
    exact reads_outs Try.underlying73 Try.underlying84 (by kernel_rfl) Try.underlying2 Try.underlying2 rfl rfl (by kernel_rfl) (by kernel_rfl) hf
  have z1 : a1.length ≤ 140737488355328 := by
    rcases s1 with e | ⟨es, sp, e, hs⟩
    · rw [e]; exact Nat.zero_le _
    · have := sized_slice hsz (j := 1) (t := 73) (e := 84) rfl (by rw [e]; rfl) Try.underlying73
      have hb : Try.prog.bytesOf 84 = 16 := by kernel_rfl
      rw [hb] at this
      unfold reachBytes at this
      omega
  obtain ⟨a2, rfl, rfl, rfl, w2⟩ := open_int Try.underlying3 (hval 2 3 v2 rfl rfl) h2
  obtain ⟨a3, rfl, rfl, rfl, w3⟩ := open_int Try.underlying3 (hval 3 3 v3 rfl rfl) h3
  obtain ⟨a4, rfl, rfl, rfl, w4⟩ := open_int Try.underlying3 (hval 4 3 v4 rfl rfl) h4
  clear hA0 hval0
  refine (outputBoth_walk _ a0 _ a1 a2 a3 a4 W z0 o0 r0r (outs_in r0w) z1 o1 r1r (outs_in r1w) w2 w3 w4).mono fun e W' ⟨he, bel⟩ => ?_
  subst he
  exact ⟨_, rfl, _, _, _, [], _, [], hW', trodAll_mk1 (shut_bool Try.underlying4 _), (trodAll_cons_mk (Below.trod laidOut (by kernel_rfl) (of_decide_eq_true (by kernel_rfl)) k0 bel lt0) (trodAll_cons_mk (Below.trod laidOut (by kernel_rfl) (of_decide_eq_true (by kernel_rfl)) k1 bel lt1) (trodAll_cons_mk (shut_int Try.underlying3 w2) (trodAll_cons_mk (shut_int Try.underlying3 w3) (trodAll_cons_mk (shut_int Try.underlying3 w4) trodAll_mk0))))), rfl, bel.frame _, fun h => by cases h⟩

theorem over : Rows.outputBothRow.holds Try.pinned (OpenSpec.ofChange Rows.outputBothSpec) :=
  OpenClaim.holds_of_wide 9 Try.f9 rfl rfl rfl rfl rfl rfl rfl ⟨rfl, rfl, rfl, rfl, rfl⟩ rfl rfl rfl rfl rfl (by kernel_rfl) Try.func9 (by kernel_rfl)
    (of_decide_eq_true (by kernel_rfl)) (by unfold Func.isWrapper; first | (rw [if_pos (by decide +kernel)]; kernel_rfl) | (rw [if_neg (by decide +kernel)]; exact ⟨rfl, rfl⟩))
    (fun os started H enc _ => lifted os started H enc)

/-- THE STATEMENT. -/
theorem proved : Rows.OutputBothSaid := over
end Go.Proofs.Ytllecjhfbojgcaa.outputBoth
