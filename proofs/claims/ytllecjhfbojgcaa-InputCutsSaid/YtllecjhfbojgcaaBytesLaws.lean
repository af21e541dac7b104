/-
  The walks through the statements of layer 2.
-/
import Derived.Test.YtllecjhfbojgcaaBytesText
namespace Go.Proofs.Ytllecjhfbojgcaa
open Go.RowKit
set_option maxRecDepth 20000

theorem putR_any (v : Value) (ns : List Int) (w : World) (hr : Reads w v ns.length (ints ns)) (hn : ns.length ≤ 1000000) (hi : ∀ n ∈ ns, Cl.In64 n) :
    Calls Try.prog 49 #[v] w fun e w' => e = .returned (.string ⟨(Cl.put ns).toArray⟩) ∧ Below w.heap.size w w' := by
  by_cases h0 : ns.length = 0
  · have hx0 : ns = [] := List.eq_nil_of_length_eq_zero h0
    subst hx0
    obtain ⟨a, c, rfl⟩ := hr.shape
    exact (put_nil a c w).mono fun e w' ⟨h1, h2⟩ => ⟨h1, by rw [← h2]; exact Below.refl _ _⟩
  · obtain ⟨b, off, cap, rfl, _, _, hlt, hc⟩ := hr.some (by omega)
    exact put_any b off cap ns w hlt (ints_cell hc) (by omega) hn hi

theorem numbers_says (s : ByteArray) (r : List Int) (x : Int) (w : World) (hs : s.size ≤ 1000000) (h : Cl.nums s.data.toList = (r, x)) :
    Calls Try.prog 47 #[.string s] w fun e w' => ∃ v, e = .returned (.tuple #[v, .int .i64 x]) ∧ Reads w' v r.length (ints r) ∧ Below w.heap.size w w' := by
  refine (numbers_any s w hs).mono fun e w' ⟨v, h1, h2, h3⟩ => ⟨v, ?_, ?_, h3⟩
  · rw [h1, h]
  · rw [h] at h2; exact h2

theorem refnumbers_says (s : ByteArray) (r : List Int) (x : Int) (w : World) (hs : s.size ≤ 1000000) (h : Cl.nums s.data.toList = (r, x)) :
    Calls Try.prog 64 #[.string s] w fun e w' => ∃ v, e = .returned (.tuple #[v, .int .i64 x]) ∧ Reads w' v r.length (ints r) ∧ Below w.heap.size w w' := by
  refine (refnumbers_any s w hs).mono fun e w' ⟨v, h1, h2, h3⟩ => ⟨v, ?_, ?_, h3⟩
  · rw [h1, h]
  · rw [h] at h2; exact h2

theorem nums_w : Cl.nums [1, 128, 1] = ([-1, 64], 0) := by decide
theorem put_w : Cl.put [-1, 64] = [1, 128, 1] := by decide

end Go.Proofs.Ytllecjhfbojgcaa
