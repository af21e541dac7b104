/-
  The walk through the reference's Turned, at a name.
-/
import Derived.Test.YtpmelloanohlkaaNamesRef
import Derived.Test.YtpmelloanohlkaaNamesTurn2
namespace Go.Proofs.Ytpmelloanohlkaa
open Go.RowKit

theorem rune_ok (s : ByteArray) (h : Cl.name s = true) (i p r : Nat) (hi : (Cl.runes s)[i]? = some (p, r)) : r ≠ 65533 := by
  rw [Cl.name] at h
  simp only [Bool.and_eq_true, List.all_eq_true] at h
  have := h.2 (p, r) (List.mem_of_getElem? hi)
  rintro rfl
  exact absurd this (show ¬ Cl.later ((65533 : Nat) : Int) = true by decide)

theorem slice_mid (s : ByteArray) (h : Cl.name s = true) (i p r : Nat) (x : Nat × Nat) (hi : (Cl.runes s)[i]? = some (p, r)) (hx : (Cl.runes s)[i + 1]? = some x) : s.extract p x.1 = Utf8.encode r ∧ p ≤ x.1 ∧ x.1 ≤ s.size := by
  obtain ⟨h1, h2, h3, -⟩ := runes_place s i p r hi
  have h4 := (runes_place s (i + 1) x.1 x.2 hx).1
  have e := h3 x hx
  refine ⟨?_, by omega, by omega⟩
  have hb := encode_back s p h1 (by rw [h2]; exact rune_ok s h i p r hi)
  rw [h2] at hb
  apply ByteArray.ext
  apply Array.toList_inj.1
  rw [hb, Lib.extract_data, e, Nat.add_sub_cancel_left]

theorem slice_end (s : ByteArray) (h : Cl.name s = true) (i p r : Nat) (hi : (Cl.runes s)[i]? = some (p, r)) (hx : (Cl.runes s)[i + 1]? = none) : s.extract p s.size = Utf8.encode r ∧ p ≤ s.size := by
  obtain ⟨h1, h2, -, h3⟩ := runes_place s i p r hi
  refine ⟨?_, by omega⟩
  have hb := encode_back s p h1 (by rw [h2]; exact rune_ok s h i p r hi)
  rw [h2] at hb
  have := h3 hx
  apply ByteArray.ext
  apply Array.toList_inj.1
  rw [hb, Lib.extract_data]
  have hsz : s.size = s.data.size := rfl
  rw [List.take_of_length_le (by simp), List.take_of_length_le (by simp; omega)]

theorem turn_drop (l : List (Nat × Nat)) (k : Nat) (x : Nat × Nat) (h : l[k]? = some x) : Cl.turn (l.drop k) = Cl.turn (l.drop (k + 1)) ++ Utf8.encode x.2 := by
  obtain ⟨hk, he⟩ := List.getElem?_eq_some_iff.1 h
  rw [List.drop_eq_getElem_cons hk, he, turn_cons]

theorem turn_drop_le (l : List (Nat × Nat)) (k : Nat) (h : l.length ≤ 24) : (Cl.turn (l.drop k)).size ≤ 96 := by
  have := Cl.turn_le (l.drop k)
  rw [List.length_drop] at this
  omega

end Go.Proofs.Ytpmelloanohlkaa
