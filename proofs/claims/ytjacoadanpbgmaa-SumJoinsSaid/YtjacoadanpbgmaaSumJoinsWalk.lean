/-
  The walk through the statement SumJoins.
-/
import Derived.Test.YtjacoadanpbgmaaSumWorks
namespace Go.Proofs.Ytjacoadanpbgmaa
open Go.RowKit

set_option maxHeartbeats 400000 in
theorem sumJoins_walk (a b : ByteArray) (ha : a.size ≤ 140737488351232) (hb : b.size ≤ 140737488351232) (w : World) :
    Calls Try.prog 5 #[.string a, .string b] w fun e w' => e = .returned (.bool true) ∧ Below w.heap.size w w' := by
  by_cases hlen : 100000 < a.size + b.size
  · go_enter Try.func5, Try.ntmps5
    go_wp2_with fail
    refine (sumworks_any _).mono ?_
    rintro e w1 ⟨rfl, h1⟩
    go_wp2_with fail
    go_ret
    exact ⟨rfl, h1⟩
  · go_enter Try.func5, Try.ntmps5
    go_wp2_with fail
    refine (sumof_one a w _ rfl (by unfold maxLen; omega)).mono ?_
    rintro e w1 ⟨rfl, rfl⟩
    have hl := Cl.adler_lt a.data.toList
    have hl1 := Cl.adler_lt b.data.toList
    have hl2 := Cl.adler_lt (a.data.toList ++ b.data.toList)
    go_wp2_with fail
    refine (sumof_one b _ _ (by simp) (by unfold maxLen; omega)).mono ?_
    rintro e w1 ⟨rfl, rfl⟩
    go_wp2_with fail
    refine (join_any _ _ b.size _ hl hl1 (by omega)).mono ?_
    rintro e w1 ⟨rfl, rfl⟩
    rw [show b.size = b.data.toList.length from by simp, Cl.adler_joins]
    go_wp2_with fail
    refine (sumof_two a b _ _ (by simp) (by unfold maxLen; omega) (by unfold maxLen; omega)).mono ?_
    rintro e w1 ⟨rfl, rfl⟩
    go_wp2_with fail
    refine (sumworks_any _).mono ?_
    rintro e w1 ⟨rfl, h1⟩
    go_wp2_with fail
    go_ret
    exact ⟨rfl, ((((Below.refl _ _).alloc (Nat.le_refl _) _).alloc (by simp) _).alloc (by simp; omega) _).trans (h1.mono (by simp; omega))⟩
end Go.Proofs.Ytjacoadanpbgmaa
