/-
  The walk through the statement SumEmpty.
-/
import Derived.Test.YtjacoadanpbgmaaSumWorks
namespace Go.Proofs.Ytjacoadanpbgmaa
open Go.RowKit

set_option maxHeartbeats 1000000 in
theorem sumEmpty_walk (a b c : ByteArray) (ha : a.size ≤ 140737488351232) (hb : b.size ≤ 140737488351232) (hc : c.size ≤ 140737488351232) (w : World) :
    Calls Try.prog 6 #[.string a, .string b, .string c] w fun e w' => e = .returned (.bool true) ∧ Below w.heap.size w w' := by
  by_cases hlen : 50000 < a.size + b.size + c.size
  · go_enter Try.func6, Try.ntmps6
    go_wp2_with fail
    refine (sumworks_any _).mono ?_
    rintro e w1 ⟨rfl, h1⟩
    go_wp2_with fail
    go_ret
    exact ⟨rfl, h1⟩
  · have ha1 : a.size ≤ 50000 := by omega
    have hb1 : b.size ≤ 50000 := by omega
    have hc1 : c.size ≤ 50000 := by omega
    have ht : decide (50000 < (a.size : Int) + b.size + c.size) = false := by simp; omega
    clear ha hb hc hlen
    have hl := Lib.hid (Cl.adler_lt a.data.toList)
    have hl1 := Lib.hid (Cl.adler_lt b.data.toList)
    have hl2 := Lib.hid (Cl.adler_lt c.data.toList)
    have j1 := Lib.hid (Cl.joined_lt (Cl.adler a.data.toList) (Cl.adler b.data.toList) b.size)
    have j2 := Lib.hid (Cl.joined_lt (Cl.adler b.data.toList) (Cl.adler c.data.toList) c.size)
    go_enter Try.func6, Try.ntmps6
    go_wp2_with fail
    refine (sumof_one a _ _ (by simp) (by unfold maxLen; omega)).mono ?_
    rintro e w1 ⟨rfl, rfl⟩
    go_wp2_with fail
    refine (sumof_one b _ _ (by simp) (by unfold maxLen; omega)).mono ?_
    rintro e w1 ⟨rfl, rfl⟩
    go_wp2_with fail
    refine (sumof_one c _ _ (by simp) (by unfold maxLen; omega)).mono ?_
    rintro e w1 ⟨rfl, rfl⟩
    go_wp2_with fail
    refine (join_any _ _ b.size _ hl.out hl1.out (by omega)).mono ?_
    rintro e w1 ⟨rfl, rfl⟩
    go_wp2_with fail
    refine (join_any _ _ c.size _ j1.out hl2.out (by omega)).mono ?_
    rintro e w1 ⟨rfl, rfl⟩
    go_wp2_with fail
    refine (join_any _ _ c.size _ hl1.out hl2.out (by omega)).mono ?_
    rintro e w1 ⟨rfl, rfl⟩
    go_wp2_with fail
    rw [show ((b.size : Int) + c.size) = ((b.size + c.size : Nat) : Int) from by simp]
    refine (join_any _ _ (b.size + c.size) _ hl.out j2.out (by omega)).mono ?_
    rintro e w1 ⟨rfl, rfl⟩
    rw [show b.size = b.data.toList.length from by simp, show c.size = c.data.toList.length from by simp, Cl.joined_assoc]
    go_wp2_with fail
    refine (sumof_nil _).mono ?_
    rintro e w1 ⟨rfl, rfl⟩
    go_wp2_with fail
    rw [show (1 : Int) = ((1 : Nat) : Int) from rfl, show (0 : Int) = ((0 : Nat) : Int) from rfl]
    refine (join_any _ 1 0 _ hl.out (by omega) (by omega)).mono ?_
    rintro e w1 ⟨rfl, rfl⟩
    rw [Cl.joined_empty]
    go_wp2_with fail
    refine (more_any _ ⟨#[]⟩ _ hl.out (by decide)).mono ?_
    rintro e w1 ⟨rfl, rfl⟩
    rw [Cl.more_nil]
    go_wp2_with fail
    refine (sumworks_any _).mono ?_
    rintro e w1 ⟨rfl, h1⟩
    go_wp2_with fail
    go_ret
    exact ⟨rfl, ((((Below.refl _ _).alloc (Nat.le_refl _) _).alloc (by simp) _).alloc (by simp; omega) _).trans (h1.mono (by simp; omega))⟩
end Go.Proofs.Ytjacoadanpbgmaa
