/-
  Calls of a pipe that came in, as the walks take them.
-/
import Derived.Test.YtgoglcggnmfapaaPipeOrd
import Derived.ProofKit
import Derived.Deep.Slices
import Derived.Lib.SmallJoins
namespace Go.Proofs.Ytgoglcggnmfapaa
open Go.RowKit Go.ChangeShapes Go.WideShapes

def OpIn (w : World) (a : Addr) (i : Nat) (r : Int × Int × Int × Value) : Prop :=
  (w.cell? (a.add (i * 4)) = some (.int .i64 r.1) ∧ w.cell? (a.add (i * 4 + 1)) = some (.int .i64 r.2.1) ∧ w.cell? (a.add (i * 4 + 2)) = some (.int .i64 r.2.2.1) ∧ w.cell? (a.add (i * 4 + 3)) = some r.2.2.2) ∧
    ∃ a k c, r.2.2.2 = .slice a k c

theorem ops_read {w : World} {b off len cap : Nat} (l : List (Int × Int × Int × Value)) (hlen : l.length = len) (hl : len ≤ cap) (hm : cap ≤ maxLen) (h0 : 0 < len)
    (h : ∀ i r, l[i]? = some r → w.cell? ⟨b, off + i * 4, none⟩ = some (.int .i64 r.1) ∧ w.cell? ⟨b, off + (i * 4 + 1), none⟩ = some (.int .i64 r.2.1) ∧ w.cell? ⟨b, off + (i * 4 + 2), none⟩ = some (.int .i64 r.2.2.1) ∧ w.cell? ⟨b, off + (i * 4 + 3), none⟩ = some r.2.2.2) :
    Reads w (.slice (some ⟨b, off, none⟩) len cap) l.length (opCells l) := by
  refine .inr ⟨b, off, cap, by rw [hlen], by omega, hm, ?_, ?_⟩
  · obtain ⟨r, hr⟩ : ∃ r, l[0]? = some r := ⟨_, List.getElem?_eq_getElem (show 0 < l.length by omega)⟩
    exact World.block_lt_of_cell? w ⟨b, off + 0 * 4, none⟩ (h 0 r hr).1
  · intro j c hj
    have hj2 : j < l.length * 4 := by
      have := (List.getElem?_eq_some_iff.1 hj).1
      rwa [opCells_len] at this
    obtain ⟨r, hr⟩ : ∃ r, l[j / 4]? = some r := ⟨_, List.getElem?_eq_getElem (show j / 4 < l.length by omega)⟩
    obtain ⟨r0, r1, r2, r3⟩ := opCells_at l (j / 4) r hr
    obtain ⟨q0, q1, q2, q3⟩ := h (j / 4) r hr
    have hcase : j = j / 4 * 4 ∨ j = j / 4 * 4 + 1 ∨ j = j / 4 * 4 + 2 ∨ j = j / 4 * 4 + 3 := by omega
    generalize hq : j / 4 = q at *
    rcases hcase with rfl | rfl | rfl | rfl
    · rw [r0] at hj; rw [← hj]; exact q0
    · rw [r1] at hj; rw [← hj]; exact q1
    · rw [r2] at hj; rw [← hj]; exact q2
    · rw [r3] at hj; rw [← hj]; exact q3

/-- A slice of calls that came in. -/
theorem reads_ops {H : Type} {enc : TypeId × Value → H} {P : Program} {w : World} {base : Nat} {spare : Nat → Bool} {held : Bool} {t e tr : TypeId} {k0 k1 f0 f1 f2 : Field} {fuel : Nat} {v : Value} {x : DataW H × List MemPlace}
    (ht : P.underlying t = some (.slice e)) (he : P.underlying e = some (.struct #[k0, k1])) (hc : P.cellsOf e = 4)
    (u0 : P.underlying k0.type = some (.int .i64)) (p0 : k0.offset = 0) (s0 : P.cellsOf k0.type = 1) (p1 : k1.offset = 1) (s1 : P.cellsOf k1.type = 3)
    (hm : P.underlying k1.type = some (.struct #[f0, f1, f2]))
    (v0 : P.underlying f0.type = some (.int .i64)) (v1 : P.underlying f1.type = some (.int .i64)) (v2 : P.underlying f2.type = some (.slice tr))
    (o0 : f0.offset = 0) (o1 : f1.offset = 1) (o2 : f2.offset = 2) (c0 : P.cellsOf f0.type = 1) (c1 : P.cellsOf f1.type = 1) (c2 : P.cellsOf f2.type = 1)
    (h : DataW.trod enc P w base spare held fuel t [v] = some x) :
    ∃ (l : List (Int × Int × Int × Value)), Reads w v l.length (opCells l) ∧ ∀ r ∈ l, ∃ a k c, r.2.2.2 = .slice a k c := by
  rcases Deep.open_slice ht h with ⟨hcs, hx⟩ | ⟨a, len, cap, m, n, D, Pl, hcs, _, hl, hm', hmm, hx, hel⟩
  · simp only [List.cons.injEq, and_true] at hcs
    subst hcs
    exact ⟨[], Reads.nil _, by simp⟩
  · simp only [List.cons.injEq, and_true] at hcs
    subst hcs
    have hle : len ≤ m := by rw [hmm]; split <;> omega
    rw [hc] at hel
    obtain ⟨f, hf⟩ := Deep.choose_lt (α := Int × Int × Int × Value) (n := len) (p := fun i r => OpIn w a i r) (fun i hi => by
      obtain ⟨cs, h1, h2⟩ := hel i (by omega)
      obtain ⟨y0, y1, n', -, hln, g0, g1⟩ := trod_struct2 he h2
      obtain ⟨_, hlen, hcell⟩ := World.cells?_some h1
      match cs, hlen with
      | [b0, b1, b2, b3], _ =>
        rw [p0, s0] at g0
        rw [p1, s1] at g1
        obtain ⟨z0, z1, z2, n'', -, -, q0, q1, q2⟩ := Deep.trod_struct3 hm g1
        rw [o0, c0] at q0
        rw [o1, c1] at q1
        rw [o2, c2] at q2
        obtain ⟨n0, e0, -, -⟩ := DataW.trod_int u0 g0
        obtain ⟨n1, e1, -, -⟩ := DataW.trod_int v0 q0
        obtain ⟨n2, e2, -, -⟩ := DataW.trod_int v1 q1
        have hs3 : ∃ a k c, b3 = .slice a k c := by
          rcases Deep.open_slice v2 q2 with ⟨e3, -⟩ | ⟨a', len', cap', _, _, _, _, e3, _⟩
          · simp at e3; exact ⟨_, _, _, e3⟩
          · simp at e3; exact ⟨_, _, _, e3⟩
        simp at e0 e1 e2
        subst e0; subst e1; subst e2
        have t0 := hcell 0 (by omega)
        have t1 := hcell 1 (by omega)
        have t2 := hcell 2 (by omega)
        have t3 := hcell 3 (by omega)
        rw [Deep.add_add] at t0 t1 t2 t3
        exact ⟨(n0, n1, n2, b3), ⟨by simpa using t0, by simpa using t1, by simpa using t2, by simpa using t3⟩, hs3⟩)
    have hget : ∀ i r, ((List.range len).map f)[i]? = some r → OpIn w a i r := by
      intro i r hi
      rw [List.getElem?_map] at hi
      obtain ⟨j, hj, rfl⟩ := Option.map_eq_some_iff.1 hi
      obtain ⟨hlt, rfl⟩ := List.getElem?_eq_some_iff.1 hj
      rw [List.length_range] at hlt
      simp only [List.getElem_range]
      exact hf i hlt
    refine ⟨(List.range len).map f, ?_, ?_⟩
    · by_cases h0 : len = 0
      · subst h0
        exact .inl ⟨_, _, rfl, rfl, rfl⟩
      · obtain ⟨b, off, spot⟩ := a
        obtain ⟨⟨hz, -, -⟩, -⟩ := hf 0 (by omega)
        have hspot : spot = none := by simpa [Addr.add] using World.cell?_spot hz
        subst hspot
        refine ops_read _ (by simp) hl hm' (by omega) fun i r hi => ?_
        have := (hget i r hi).1
        rw [addr_add, addr_add, addr_add, addr_add] at this
        exact this
    · intro r hr
      obtain ⟨i, hi⟩ := List.mem_iff_getElem?.1 hr
      exact (hget i r hi).2

end Go.Proofs.Ytgoglcggnmfapaa
