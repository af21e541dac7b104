/-
  The walk through the statement SumMore.
-/
import Derived.Test.YtjacoadanpbgmaaSumWorks
namespace Go.Proofs.Ytjacoadanpbgmaa
open Go.RowKit

theorem data_append (a b : ByteArray) : (a ++ b).data.toList = a.data.toList ++ b.data.toList := by simp

set_option maxHeartbeats 400000 in
theorem sumMore_walk (a b : ByteArray) (ha : a.size ≤ 140737488351232) (hb : b.size ≤ 140737488351232) (w : World) :
    Calls Try.prog 3 #[.string a, .string b] w fun e w' => e = .returned (.bool true) ∧ Below w.heap.size w w' := by
  by_cases hlen : 100000 < a.size + b.size
  · go_enter Try.func3, Try.ntmps3
    go_wp2_with fail
    refine (sumworks_any _).mono ?_
    rintro e w1 ⟨rfl, h1⟩
    go_wp2_with fail
    go_ret
    exact ⟨rfl, h1⟩
  · go_enter Try.func3, Try.ntmps3
    go_wp2_with fail
    refine (sumof_one a w _ rfl (by unfold maxLen; omega)).mono ?_
    rintro e w1 ⟨rfl, rfl⟩
    have hl := Cl.adler_lt a.data.toList
    have hl2 := Cl.adler_lt (a.data.toList ++ b.data.toList)
    go_wp2_with fail
    refine (more_any _ b _ hl (by unfold maxLen; omega)).mono ?_
    rintro e w1 ⟨rfl, rfl⟩
    rw [Cl.adler_append]
    go_wp2_with fail
    refine (refof_any (a ++ b) _ (by rw [ByteArray.size_append]; unfold maxLen; omega)).mono ?_
    rintro e w1 ⟨rfl, rfl⟩
    rw [data_append]
    go_wp2_with fail
    refine (sumworks_any _).mono ?_
    rintro e w1 ⟨rfl, h1⟩
    go_wp2_with fail
    go_ret
    exact ⟨rfl, ((Below.refl _ _).alloc (Nat.le_refl _) _).trans (h1.mono (by simp))⟩
end Go.Proofs.Ytjacoadanpbgmaa
