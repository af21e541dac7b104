/-
  The walks through the statements of layer 2.
-/
import Derived.Test.YthnellehndggpaaBytesText
namespace Go.Proofs.Ythnellehndggpaa
open Go.RowKit

theorem putR_any (v : Value) (ns : List Int) (w : World) (hr : Reads w v ns.length (ints ns)) (hn : ns.length ≤ 1000000) (hi : ∀ n ∈ ns, Cl.In64 n) :
    Calls Try.prog 17 #[v] w fun e w' => e = .returned (.string ⟨(Cl.put ns).toArray⟩) ∧ Below w.heap.size w w' := by
  by_cases h0 : ns.length = 0
  · have hx0 : ns = [] := List.eq_nil_of_length_eq_zero h0
    subst hx0
    obtain ⟨a, c, rfl⟩ := hr.shape
    exact (put_nil a c w).mono fun e w' ⟨h1, h2⟩ => ⟨h1, by rw [← h2]; exact Below.refl _ _⟩
  · obtain ⟨b, off, cap, rfl, _, _, hlt, hc⟩ := hr.some (by omega)
    exact put_any b off cap ns w hlt (ints_cell hc) (by omega) hn hi

theorem numbers_says (s : ByteArray) (r : List Int) (x : Int) (w : World) (hs : s.size ≤ 1000000) (h : Cl.nums s.data.toList = (r, x)) :
    Calls Try.prog 23 #[.string s] w fun e w' => ∃ v, e = .returned (.tuple #[v, .int .i64 x]) ∧ Reads w' v r.length (ints r) ∧ Below w.heap.size w w' := by
  refine (numbers_any s w hs).mono fun e w' ⟨v, h1, h2, h3⟩ => ⟨v, ?_, ?_, h3⟩
  · rw [h1, h]
  · rw [h] at h2; exact h2

theorem refnumbers_says (s : ByteArray) (r : List Int) (x : Int) (w : World) (hs : s.size ≤ 1000000) (h : Cl.nums s.data.toList = (r, x)) :
    Calls Try.prog 24 #[.string s] w fun e w' => ∃ v, e = .returned (.tuple #[v, .int .i64 x]) ∧ Reads w' v r.length (ints r) ∧ Below w.heap.size w w' := by
  refine (refnumbers_any s w hs).mono fun e w' ⟨v, h1, h2, h3⟩ => ⟨v, ?_, ?_, h3⟩
  · rw [h1, h]
  · rw [h] at h2; exact h2

theorem nums_w : Cl.nums [1, 128, 1] = ([-1, 64], 0) := by decide
theorem put_w : Cl.put [-1, 64] = [1, 128, 1] := by decide

set_option maxHeartbeats 1000000 in
theorem bworks_any (w : World) :
    Calls Try.prog 16 #[] w fun e w' => e = .returned (.bool true) ∧ Below w.heap.size w w' := by
  have hin : ∀ n ∈ ([-1, 64] : List Int), Cl.In64 n := by
    intro n hn
    simp at hn
    rcases hn with rfl | rfl <;> constructor <;> omega
  have HI := Lib.hid hin
  clear hin
  go_enter Try.func16, Try.ntmps16
  go_wp2_with fail
  refine (numbers_says ⟨#[1, 128, 1]⟩ [-1, 64] 0 w (by decide) nums_w).mono ?_
  rintro e w1 ⟨v1, rfl, hr1, hb1⟩
  go_wp2_with fail
  refine (putR_any _ [-1, 64] _ (Reads.lit _ _ _ 2 _ (by simp) (by simp [maxLen])) (by simp) HI.out).mono ?_
  rintro e w2 ⟨rfl, hb2⟩
  rw [put_w]
  have hr2 := (hr1.alloc _).below hb2
  go_wp2_with fail
  refine (eqInts64_any _ _ [-1, 64] [-1, 64] _ (hr2.alloc _) (Reads.lit _ _ _ 2 _ (by simp) (by simp [maxLen]))).mono ?_
  rintro e w' ⟨rfl, n1, rfl⟩
  clear hr1 hr2
  go_wp2_with fail
  go_ret
  exact ⟨rfl, bel_trans hb1 (bel_trans (bel_alloc _ _) (bel_trans hb2 (bel_alloc_drewN _ _ _)))⟩

end Go.Proofs.Ythnellehndggpaa
