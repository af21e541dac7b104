/-
  The walks through the statements on sums.
-/
import Derived.Test.YtjacoadanpbgmaaSumWalks
import Derived.Below
namespace Go.Proofs.Ytjacoadanpbgmaa
open Go.RowKit

theorem cell_row (w : World) (c : Array Value) (T : TypeId) (i : Nat) (v : Value) (h : c[i]? = some v) : (w.alloc (.cells c T)).cell? ⟨w.heap.size, i, none⟩ = some v := by
  rw [World.cell?_alloc_at c T _ i rfl, h]

/-- The sum of one part that was just laid. -/
theorem sumof_one (s : ByteArray) (w : World) (n : Nat) (hn : n = w.heap.size) (hs : s.size ≤ maxLen) :
    Calls Try.prog 15 #[.slice (some ⟨n, 0, none⟩) 1 1] (w.alloc (.cells #[.string s] 9)) fun e w' => e = .returned (.int .u32 (Cl.adler s.data.toList)) ∧ w.alloc (.cells #[.string s] 9) = w' := by
  subst hn
  refine (sumof_any w.heap.size 0 1 [s] _ (by simp [maxLen]) (by simpa using hs) ?_).mono ?_
  · intro i x h
    rw [Nat.zero_add]
    refine cell_row w _ _ i _ ?_
    have h0 : i = 0 := by
      match i, h with
      | 0, _ => rfl
      | n + 1, h => simp at h
    subst h0
    simp at h
    simp [h]
  · rintro e w' ⟨rfl, rfl⟩
    exact ⟨by simp [cat], rfl⟩

theorem sumof_two (s t : ByteArray) (w : World) (n : Nat) (hn : n = w.heap.size) (hs : s.size ≤ maxLen) (ht : t.size ≤ maxLen) :
    Calls Try.prog 15 #[.slice (some ⟨n, 0, none⟩) 2 2] (w.alloc (.cells #[.string s, .string t] 9)) fun e w' => e = .returned (.int .u32 (Cl.adler (s.data.toList ++ t.data.toList))) ∧ w.alloc (.cells #[.string s, .string t] 9) = w' := by
  subst hn
  refine (sumof_any w.heap.size 0 2 [s, t] _ (by simp [maxLen]) (by simpa using ⟨hs, ht⟩) ?_).mono ?_
  · intro i x h
    rw [Nat.zero_add]
    refine cell_row w _ _ i _ ?_
    match i, h with
    | 0, h => simp at h; simp [h]
    | 1, h => simp at h; simp [h]
    | n + 2, h => simp at h
  · rintro e w' ⟨rfl, rfl⟩
    exact ⟨by simp [cat], rfl⟩

theorem wiki : Cl.adler ([87, 105, 107, 105] ++ [112, 101, 100, 105, 97]) = 300286872 := by decide +kernel

set_option maxHeartbeats 400000 in
theorem sumworks_any (w : World) :
    Calls Try.prog 13 #[] w fun e w' => e = .returned (.bool true) ∧ Below w.heap.size w w' := by
  go_enter Try.func13, Try.ntmps13
  go_wp2_with fail
  refine (sumof_two _ _ w _ rfl (by decide) (by decide)).mono ?_
  rintro e w' ⟨rfl, rfl⟩
  have hw := wiki
  go_wp2_with fail
  refine (sumof_nil _).mono ?_
  rintro e w' ⟨rfl, rfl⟩
  go_wp2_with fail
  go_ret
  exact ⟨rfl, (Below.refl _ _).alloc (Nat.le_refl _) _⟩

end Go.Proofs.Ytjacoadanpbgmaa
