/-
  Arguments that came in, as the walks take them.
-/
import Derived.Test.YtdnjmihalmhddaaLib
import Derived.ProofKit
import Derived.SliceStrings
import Derived.ShutString
namespace Go.Proofs.Ytdnjmihalmhddaa
open Go.RowKit Go.ChangeShapes Go.WideShapes

def strV (ss : List ByteArray) : List Value := ss.map Value.string

/-- A slice of strings that came in. -/
theorem reads_strings {H : Type} {enc : TypeId × Value → H} {P : Program} {w : World} {base : Nat} {spare : Nat → Bool} {held : Bool} {t e : TypeId} {fuel : Nat} {v : Value} {x : DataW H × List MemPlace}
    (ht : P.underlying t = some (.slice e)) (he : P.underlying e = some .string) (hc : P.cellsOf e = 1)
    (h : DataW.trod enc P w base spare held fuel t [v] = some x) :
    ∃ (ss sp : List ByteArray), Reads w v ss.length (strV ss) ∧ (∀ s ∈ ss, s.size ≤ maxLen) ∧ (x.1 = .nil ∧ ss = [] ∨ x.1 = .slice (strs ss) (strs sp)) := by
  rcases open_strings ht he hc h with ⟨hcs, hx⟩ | ⟨a, len, cap, ss, hcs, _, hl, hm, hz, hx, hcell, hws⟩
  · simp only [List.cons.injEq, and_true] at hcs
    subst hcs
    exact ⟨[], [], Reads.nil _, by simp, .inl ⟨by rw [hx], rfl⟩⟩
  · simp only [List.cons.injEq, and_true] at hcs
    subst hcs
    have hlen : len ≤ ss.length := by rw [hz]; split <;> omega
    refine ⟨ss.take len, ss.drop len, ?_, fun s hs => hws s (List.mem_of_mem_take hs), .inr (by rw [hx])⟩
    have e1 : (ss.take len).length = len := by rw [List.length_take]; omega
    rw [e1]
    by_cases h0 : len = 0
    · subst h0
      exact .inl ⟨_, _, rfl, rfl, rfl⟩
    · obtain ⟨b, off, spot⟩ := a
      have hc0 := hcell 0 (by omega)
      have hspot : spot = none := by simpa [Addr.add] using World.cell?_spot hc0
      subst hspot
      refine .inr ⟨b, off, cap, rfl, hl, hm, ?_, ?_⟩
      · exact World.block_lt_of_cell? w ⟨b, off + 0, none⟩ (by rw [addr_add] at hc0; exact hc0)
      · intro i c hi
        have hi2 : i < len := by
          have := (List.getElem?_eq_some_iff.1 hi).1
          simp [strV] at this
          omega
        have hcell' := hcell i (by omega)
        rw [addr_add] at hcell'
        rw [hcell']
        simp only [strV, List.getElem?_map, List.getElem?_take_of_lt hi2] at hi
        rw [List.getD_eq_getElem?_getD]
        rw [List.getElem?_eq_getElem (by omega)] at hi ⊢
        simpa using hi

/-- A slice of integers that came in. -/
theorem reads_ints {H : Type} {enc : TypeId × Value → H} {P : Program} {w : World} {base : Nat} {spare : Nat → Bool} {held : Bool} {t e : TypeId} {fuel : Nat} {v : Value} {x : DataW H × List MemPlace}
    (ht : P.underlying t = some (.slice e)) (he : P.underlying e = some (.int .i64)) (hc : P.cellsOf e = 1)
    (h : DataW.trod enc P w base spare held fuel t [v] = some x) :
    ∃ (ns : List Int), Reads w v ns.length (ints ns) ∧ (∀ n ∈ ns, (Lit.int .i64 n).wf = true) := by
  rcases open_ints ht he hc h with ⟨hcs, hx⟩ | ⟨a, len, cap, zs, hcs, _, hl, hm, hz, hx, hcell, hws⟩
  · simp only [List.cons.injEq, and_true] at hcs
    subst hcs
    exact ⟨[], Reads.nil _, by simp⟩
  · simp only [List.cons.injEq, and_true] at hcs
    subst hcs
    have hlen : len ≤ zs.length := by rw [hz]; split <;> omega
    refine ⟨zs.take len, ?_, fun s hs => hws s (List.mem_of_mem_take hs)⟩
    have e1 : (zs.take len).length = len := by rw [List.length_take]; omega
    rw [e1]
    by_cases h0 : len = 0
    · subst h0
      exact .inl ⟨_, _, rfl, rfl, rfl⟩
    · obtain ⟨b, off, spot⟩ := a
      have hc0 := hcell 0 (by omega)
      have hspot : spot = none := by simpa [Addr.add] using World.cell?_spot hc0
      subst hspot
      refine .inr ⟨b, off, cap, rfl, hl, hm, ?_, ?_⟩
      · exact World.block_lt_of_cell? w ⟨b, off + 0, none⟩ (by rw [addr_add] at hc0; exact hc0)
      · intro i c hi
        have hi2 : i < len := by
          have := (List.getElem?_eq_some_iff.1 hi).1
          simp [ints] at this
          omega
        have hcell' := hcell i (by omega)
        rw [addr_add] at hcell'
        rw [hcell']
        simp only [ints, List.getElem?_map, List.getElem?_take_of_lt hi2] at hi
        rw [List.getD_eq_getElem?_getD]
        rw [List.getElem?_eq_getElem (by omega)] at hi ⊢
        simpa using hi

end Go.Proofs.Ytdnjmihalmhddaa
