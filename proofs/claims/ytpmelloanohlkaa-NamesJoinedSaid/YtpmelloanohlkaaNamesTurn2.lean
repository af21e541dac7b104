/-
  Plain facts for the reference's Turned.
-/
import Derived.Test.YtpmelloanohlkaaNamesUtf
import Derived.Test.YtpmelloanohlkaaNamesTurn
namespace Go.Proofs.Ytpmelloanohlkaa
open Go.RowKit

theorem runesFrom_at (s : ByteArray) (f : Nat) : ∀ (pos i p r : Nat), s.size ≤ pos + f → (Cl.runesFrom s f pos)[i]? = some (p, r) →
    p < s.size ∧ (Utf8.decode s p).1 = r ∧ (∀ x, (Cl.runesFrom s f pos)[i + 1]? = some x → x.1 = p + (Utf8.decode s p).2) ∧ ((Cl.runesFrom s f pos)[i + 1]? = none → s.size ≤ p + (Utf8.decode s p).2) := by
  induction f with
  | zero => intro pos i p r _ h; simp [Cl.runesFrom] at h
  | succ f ih =>
    intro pos i p r hf h
    by_cases hp : pos < s.size
    · have hw := Cl.width_pos s pos hp
      rw [Cl.runesFrom_step s f pos hp] at h ⊢
      cases i with
      | zero =>
        simp only [List.getElem?_cons_zero, Option.some.injEq, Prod.mk.injEq] at h
        obtain ⟨rfl, rfl⟩ := h
        refine ⟨hp, rfl, ?_, ?_⟩
        · intro x hx
          simp only [Nat.zero_add, List.getElem?_cons_succ] at hx
          by_cases hq : pos + (Utf8.decode s pos).2 < s.size
          · cases f with
            | zero => simp [Cl.runesFrom] at hx
            | succ f =>
              rw [Cl.runesFrom_step s f _ hq] at hx
              simp only [List.getElem?_cons_zero, Option.some.injEq] at hx
              rw [← hx]
          · rw [Cl.runesFrom_end s f _ hq] at hx
            simp at hx
        · intro hx
          simp only [Nat.zero_add, List.getElem?_cons_succ] at hx
          by_cases hq : pos + (Utf8.decode s pos).2 < s.size
          · obtain ⟨g, rfl⟩ : ∃ g, f = g + 1 := ⟨f - 1, by omega⟩
            rw [Cl.runesFrom_step s g _ hq] at hx
            simp at hx
          · omega
      | succ i =>
        simp only [List.getElem?_cons_succ] at h ⊢
        exact ih _ i p r (by omega) h
    · rw [Cl.runesFrom_end s _ pos hp] at h
      simp at h

theorem runes_place (s : ByteArray) (i p r : Nat) (h : (Cl.runes s)[i]? = some (p, r)) :
    p < s.size ∧ (Utf8.decode s p).1 = r ∧ (∀ x, (Cl.runes s)[i + 1]? = some x → x.1 = p + (Utf8.decode s p).2) ∧ ((Cl.runes s)[i + 1]? = none → s.size ≤ p + (Utf8.decode s p).2) :=
  runesFrom_at s s.size 0 i p r (by omega) h

theorem nil_app (t : ByteArray) : (⟨#[]⟩ : ByteArray) ++ t = t := by
  apply ByteArray.ext; simp [ByteArray.data_append]
theorem app_nil (t : ByteArray) : t ++ (⟨#[]⟩ : ByteArray) = t := by
  apply ByteArray.ext; simp [ByteArray.data_append]

theorem turn_any (l : List (Nat × Nat)) (t : ByteArray) : l.foldl (fun t x => Utf8.encode x.2 ++ t) t = Cl.turn l ++ t := by
  induction l generalizing t with
  | nil => simp [Cl.turn, nil_app]
  | cons x l ih =>
    simp only [Cl.turn, List.foldl_cons]
    rw [ih, ih (Utf8.encode x.2 ++ ⟨#[]⟩)]
    simp [ByteArray.append_assoc, nil_app]
theorem turn_cons (x : Nat × Nat) (l : List (Nat × Nat)) : Cl.turn (x :: l) = Cl.turn l ++ Utf8.encode x.2 := by
  have := turn_any l (Utf8.encode x.2 ++ ⟨#[]⟩)
  simp only [Cl.turn, List.foldl_cons] at this ⊢
  rw [this, app_nil]

end Go.Proofs.Ytpmelloanohlkaa
