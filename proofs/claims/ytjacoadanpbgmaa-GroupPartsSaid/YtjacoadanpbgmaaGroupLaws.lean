/-
  The walks through the statements on groups.
-/
import Derived.Test.YtjacoadanpbgmaaGroupWalks
namespace Go.Proofs.Ytjacoadanpbgmaa
open Go.RowKit

set_option maxHeartbeats 400000 in
theorem gworks_any (w : World) :
    Calls Try.prog 22 #[] w fun e w' => e = .returned (.bool true) ∧ w = w' := by
  go_enter Try.func22, Try.ntmps22
  go_wp2_with fail
  refine (gof_any 9 _).mono ?_
  rintro e w' ⟨rfl, rfl⟩
  go_wp2_with fail
  refine (gof_any (-1) _).mono ?_
  rintro e w' ⟨rfl, rfl⟩
  go_wp2_with fail
  refine (gpart_any (-1) _).mono ?_
  rintro e w' ⟨rfl, rfl⟩
  go_wp2_with fail
  go_ret
  exact ⟨rfl, rfl⟩

theorem owns03 : owns 0 3 8 = [0, 1, 2] := by decide
theorem owns23 : owns 2 3 8 = [6, 7] := by decide
theorem owns33 : owns 3 3 8 = [] := by decide

set_option maxHeartbeats 1000000 in
theorem groupKnown_walk (w : World) :
    Calls Try.prog 10 #[] w fun e w' => e = .returned (.bool true) ∧ Below w.heap.size w w' := by
  go_enter Try.func10, Try.ntmps10
  go_wp2_with fail
  refine (gworks_any _).mono ?_
  rintro e w' ⟨rfl, rfl⟩
  go_wp2_with fail
  refine (gpart_any 9 _).mono ?_
  rintro e w' ⟨rfl, rfl⟩
  go_wp2_with fail
  refine (gplace_any (-1) 3 _).mono ?_
  rintro e w' ⟨rfl, rfl⟩
  have hp : placeOf (-1) 3 = 2 := by decide
  rw [hp]
  go_wp2_with fail
  refine (gowns_any 0 3 _ (by omega) (by omega)).mono ?_
  rintro e w1 ⟨v1, rfl, hr1, hb1⟩
  rw [owns03] at hr1
  go_wp2_with fail
  refine (eqInts_any _ _ [0, 1, 2] [0, 1, 2] _ (hr1.alloc _) (Reads.lit _ _ _ 3 _ (by simp) (by simp [maxLen]))).mono ?_
  rintro e w' ⟨rfl, n1, rfl⟩
  go_wp2_with fail
  refine (gowns_any 2 3 _ (by omega) (by omega)).mono ?_
  rintro e w2 ⟨v2, rfl, hr2, hb2⟩
  rw [owns23] at hr2
  go_wp2_with fail
  refine (eqInts_any _ _ [6, 7] [6, 7] _ (hr2.alloc _) (Reads.lit _ _ _ 2 _ (by simp) (by simp [maxLen]))).mono ?_
  rintro e w' ⟨rfl, n2, rfl⟩
  go_wp2_with fail
  refine (gowns_any 3 3 _ (by omega) (by omega)).mono ?_
  rintro e w3 ⟨v3, rfl, hr3, hb3⟩
  rw [owns33] at hr3
  obtain ⟨a3, c3, rfl⟩ := hr3.shape
  clear hr1 hr2 hr3
  go_wp2_with fail
  go_ret
  exact ⟨rfl, bel_trans hb1 (bel_trans (bel_alloc_drewN _ _ _) (bel_trans hb2 (bel_trans (bel_alloc_drewN _ _ _) hb3)))⟩

theorem bdec {p q : Prop} [Decidable p] [Decidable q] (h : p ↔ q) : decide p = decide q := by
  simp only [h]

set_option maxHeartbeats 1000000 in
theorem groupKeys_walk (key par at_ : Int) (_w0 : (Lit.int .i64 key).wf = true) (_w1 : (Lit.int .i64 par).wf = true) (_w2 : (Lit.int .i64 at_).wf = true) (w : World) :
    Calls Try.prog 11 #[.int .i64 key, .int .i64 par, .int .i64 at_] w fun e w' => e = .returned (.bool true) ∧ Below w.heap.size w w' := by
  by_cases h : par < 1 ∨ 4 < par
  · go_enter Try.func11, Try.ntmps11
    go_wp2_with fail
    refine (gof_any key _).mono ?_
    rintro e w' ⟨rfl, rfl⟩
    go_wp2_with fail
    refine (rof_any key _).mono ?_
    rintro e w' ⟨rfl, rfl⟩
    go_wp2_with fail
    refine (gpart_any key _).mono ?_
    rintro e w' ⟨rfl, rfl⟩
    go_wp2_with fail
    refine (rpart_any key _).mono ?_
    rintro e w' ⟨rfl, rfl⟩
    go_wp2_with fail
    refine (gplace_any key par _).mono ?_
    rintro e w' ⟨rfl, rfl⟩
    go_wp2_with fail
    refine (rplace_any key par _).mono ?_
    rintro e w' ⟨rfl, rfl⟩
    go_wp2_with fail
    refine (gowns_out at_ par _ h).mono ?_
    rintro e w' ⟨rfl, rfl⟩
    go_wp2_with fail
    refine (refowns_any at_ par _).mono ?_
    rintro e w1 ⟨v1, rfl, hr1, hb1⟩
    rw [rowns_out at_ par h 8] at hr1
    go_wp2_with fail
    refine (eqInts_any _ _ [] [] _ (Reads.nil _) hr1).mono ?_
    rintro e w' ⟨rfl, n1, rfl⟩
    clear hr1
    go_wp2_with fail
    refine (gworks_any _).mono ?_
    rintro e w' ⟨rfl, rfl⟩
    go_wp2_with fail
    go_ret
    exact ⟨rfl, bel_trans hb1 (bel_drewN _ _)⟩
  · go_enter Try.func11, Try.ntmps11
    go_wp2_with fail
    refine (gof_any key _).mono ?_
    rintro e w' ⟨rfl, rfl⟩
    go_wp2_with fail
    refine (rof_any key _).mono ?_
    rintro e w' ⟨rfl, rfl⟩
    go_wp2_with fail
    refine (gpart_any key _).mono ?_
    rintro e w' ⟨rfl, rfl⟩
    go_wp2_with fail
    refine (rpart_any key _).mono ?_
    rintro e w' ⟨rfl, rfl⟩
    go_wp2_with fail
    refine (gplace_any key par _).mono ?_
    rintro e w' ⟨rfl, rfl⟩
    go_wp2_with fail
    refine (rplace_any key par _).mono ?_
    rintro e w' ⟨rfl, rfl⟩
    go_wp2_with fail
    refine (gowns_any at_ par _ (by omega) (by omega)).mono ?_
    rintro e w1 ⟨v1, rfl, hr1, hb1⟩
    go_wp2_with fail
    refine (refowns_any at_ par _).mono ?_
    rintro e w2 ⟨v2, rfl, hr2, hb2⟩
    rw [rowns_in at_ par (by omega) (by omega) 8 (by omega)] at hr2
    go_wp2_with fail
    refine (eqInts_any _ _ _ _ _ (hr1.below hb2) hr2).mono ?_
    rintro e w' ⟨rfl, n1, rfl⟩
    clear hr1 hr2
    go_wp2_with fail
    refine (gworks_any _).mono ?_
    rintro e w' ⟨rfl, rfl⟩
    go_wp2_with fail
    go_ret
    exact ⟨rfl, bel_trans hb1 (bel_trans hb2 (bel_drewN _ _))⟩

end Go.Proofs.Ytjacoadanpbgmaa
