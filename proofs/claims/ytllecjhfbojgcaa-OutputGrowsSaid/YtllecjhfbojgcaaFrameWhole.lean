/-
  The walks through frame.All's maker and frame.Whole.
-/
import Derived.Test.YtllecjhfbojgcaaFrameAll
namespace Go.Proofs.Ytllecjhfbojgcaa
open Go.RowKit Go.Shelf
set_option maxRecDepth 20000
attribute [local go_sem] Oper.semAt_some

theorem all_any (s : ByteArray) (w : World) :
    Calls Try.prog 82 #[.string s] w fun e w' => e = .returned (.func (.func 102) #[] #[.pointer (some ⟨w.heap.size, 0, none⟩)]) ∧ w.alloc (.cells #[.string s] 9) = w' := by
  go_enter Try.func82, Try.ntmps82
  go_wp2_with fail
  go_ret
  exact ⟨rfl, rfl⟩

/-- The bytes of the frames. -/
def lens (l : List (Nat × List UInt8)) : Nat := (l.map fun y => (Cl.putF (UInt8.ofNat y.1) y.2).length).sum
theorem lens_snoc (l : List (Nat × List UInt8)) (k : Nat) (y : Nat × List UInt8) (h : l[k]? = some y) : lens (l.take (k + 1)) = lens (l.take k) + (Cl.putF (UInt8.ofNat y.1) y.2).length := by
  unfold lens
  rw [List.take_add_one, h]
  simp

theorem of_toNat (c : UInt8) : UInt8.ofNat c.toNat = c := by simp

theorem allF_is (f : Nat) : ∀ s : List UInt8, (∀ y ∈ (Cl.allF f s).1, ∃ c : UInt8, y.1 = c.toNat ∧ c.toNat ≠ 0 ∧ y.2.length ≤ 65536) ∧ lens (Cl.allF f s).1 = (Cl.allF f s).2 ∧ (Cl.allF f s).2 ≤ s.length := by
  induction f with
  | zero => intro s; exact ⟨by simp [Cl.allF], rfl, Nat.zero_le _⟩
  | succ f ih =>
    intro s
    obtain ⟨c, t, n, x, ht⟩ : ∃ c t n x, Cl.takeF s = (c, t, n, x) := ⟨_, _, _, _, rfl⟩
    by_cases hx : x = 0
    · subst hx
      obtain ⟨cc, rfl, hcc, hmle, hput, ht2, hm6⟩ := Cl.takeF_ok s _ _ _ ht
      have e : Cl.allF (f + 1) s = ((cc.toNat, t) :: (Cl.allF f (s.drop n)).1, n + (Cl.allF f (s.drop n)).2) := by
        conv => lhs; unfold Cl.allF
        rw [ht]
        simp
      rw [e]
      obtain ⟨h1, h2, h3⟩ := ih (s.drop n)
      have hlen : (Cl.putF cc t).length = n := by rw [← hput]; simp; omega
      refine ⟨?_, ?_, ?_⟩
      · intro y hy
        simp only [List.mem_cons] at hy
        rcases hy with rfl | hy
        · exact ⟨cc, rfl, hcc, ht2⟩
        · exact h1 y hy
      · show lens ((cc.toNat, t) :: _) = _
        unfold lens at h2 ⊢
        simp only [List.map_cons, List.sum_cons, of_toNat, hlen, h2]
      · rw [List.length_drop] at h3
        simp only
        omega
    · have e : Cl.allF (f + 1) s = ([], 0) := by
        unfold Cl.allF
        rw [ht, if_pos hx]
      rw [e]
      exact ⟨by simp, rfl, Nat.zero_le _⟩
theorem lens_le (l : List (Nat × List UInt8)) (k : Nat) : lens (l.take k) ≤ lens l := by
  conv => rhs; rw [← List.take_append_drop k l]
  unfold lens
  rw [List.map_append, List.sum_append]
  omega

theorem putf_item (y : Nat × List UInt8) (w : World) (h : ∃ c : UInt8, y.1 = c.toNat ∧ c.toNat ≠ 0 ∧ y.2.length ≤ 65536) :
    Calls Try.prog 83 #[.int .u8 y.1, .string ⟨y.2.toArray⟩] w fun e w' => e = .returned (.tuple #[.string ⟨(Cl.putF (UInt8.ofNat y.1) y.2).toArray⟩, .int .i64 0]) ∧ Below w.heap.size w w' := by
  obtain ⟨c, hc, h0, hl⟩ := h
  refine (putf_n y.1 c ⟨y.2.toArray⟩ (Cl.putF (UInt8.ofNat y.1) y.2) w (by rw [hc]) h0 (by rw [size_mk]; exact hl) ?_)
  rw [hc, of_toNat]

end Go.Proofs.Ytllecjhfbojgcaa
