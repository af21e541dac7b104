/-
  Records of the input that came in, as the walks take them.
-/
import Derived.Test.YtllecjhfbojgcaaInAt
import Derived.ProofKit
import Derived.Deep.Slices
import Derived.Lib.SmallJoins
namespace Go.Proofs.Ytllecjhfbojgcaa
open Go.RowKit Go.ChangeShapes Go.WideShapes
set_option maxRecDepth 20000

instance : Inhabited InR := ⟨⟨0, 0, 0⟩⟩

def InIn (w : World) (a : Addr) (i : Nat) (r : InR) : Prop :=
  (w.cell? (a.add (i * 3)) = some (.int .i64 r.part) ∧ w.cell? (a.add (i * 3 + 1)) = some (.int .i64 r.key) ∧ w.cell? (a.add (i * 3 + 2)) = some (.int .i64 r.val)) ∧
    (Lit.int .i64 r.part).wf = true ∧ (Lit.int .i64 r.key).wf = true ∧ (Lit.int .i64 r.val).wf = true

theorem ins_read {w : World} {b off len cap : Nat} (l : List InR) (hlen : l.length = len) (hl : len ≤ cap) (hm : cap ≤ maxLen) (h0 : 0 < len)
    (h : ∀ i r, l[i]? = some r → w.cell? ⟨b, off + i * 3, none⟩ = some (.int .i64 r.part) ∧ w.cell? ⟨b, off + (i * 3 + 1), none⟩ = some (.int .i64 r.key) ∧ w.cell? ⟨b, off + (i * 3 + 2), none⟩ = some (.int .i64 r.val)) :
    Reads w (.slice (some ⟨b, off, none⟩) len cap) l.length (inCells l) := by
  refine .inr ⟨b, off, cap, by rw [hlen], by omega, hm, ?_, ?_⟩
  · obtain ⟨r, hr⟩ : ∃ r, l[0]? = some r := ⟨_, List.getElem?_eq_getElem (show 0 < l.length by omega)⟩
    exact World.block_lt_of_cell? w ⟨b, off + 0 * 3, none⟩ (h 0 r hr).1
  · intro j c hj
    have hj2 : j < l.length * 3 := by
      have := (List.getElem?_eq_some_iff.1 hj).1
      rwa [inCells_len] at this
    obtain ⟨r, hr⟩ : ∃ r, l[j / 3]? = some r := ⟨_, List.getElem?_eq_getElem (show j / 3 < l.length by omega)⟩
    obtain ⟨r0, r1, r2⟩ := inCells_at l (j / 3) r hr
    obtain ⟨q0, q1, q2⟩ := h (j / 3) r hr
    have hcase : j = j / 3 * 3 ∨ j = j / 3 * 3 + 1 ∨ j = j / 3 * 3 + 2 := by omega
    generalize hq : j / 3 = q at *
    rcases hcase with rfl | rfl | rfl
    · rw [r0] at hj; rw [← hj]; exact q0
    · rw [r1] at hj; rw [← hj]; exact q1
    · rw [r2] at hj; rw [← hj]; exact q2

/-- A slice of the input's records that came in. -/
theorem reads_ins {H : Type} {enc : TypeId × Value → H} {P : Program} {w : World} {base : Nat} {spare : Nat → Bool} {held : Bool} {t e : TypeId} {f0 f1 f2 : Field} {fuel : Nat} {v : Value} {x : DataW H × List MemPlace}
    (ht : P.underlying t = some (.slice e)) (he : P.underlying e = some (.struct #[f0, f1, f2])) (hc : P.cellsOf e = 3)
    (k0 : P.underlying f0.type = some (.int .i64)) (k1 : P.underlying f1.type = some (.int .i64)) (k2 : P.underlying f2.type = some (.int .i64))
    (o0 : f0.offset = 0) (o1 : f1.offset = 1) (o2 : f2.offset = 2) (c0 : P.cellsOf f0.type = 1) (c1 : P.cellsOf f1.type = 1) (c2 : P.cellsOf f2.type = 1)
    (h : DataW.trod enc P w base spare held fuel t [v] = some x) :
    ∃ (l : List InR), Reads w v l.length (inCells l) ∧ ∀ r ∈ l, (Lit.int .i64 r.part).wf = true ∧ (Lit.int .i64 r.key).wf = true ∧ (Lit.int .i64 r.val).wf = true := by
  rcases Deep.open_slice ht h with ⟨hcs, hx⟩ | ⟨a, len, cap, m, n, D, Pl, hcs, _, hl, hm, hmm, hx, hel⟩
  · simp only [List.cons.injEq, and_true] at hcs
    subst hcs
    exact ⟨[], Reads.nil _, by simp⟩
  · simp only [List.cons.injEq, and_true] at hcs
    subst hcs
    have hle : len ≤ m := by rw [hmm]; split <;> omega
    rw [hc] at hel
    obtain ⟨f, hf⟩ := Deep.choose_lt (α := InR) (n := len) (p := fun i r => InIn w a i r) (fun i hi => by
      obtain ⟨cs, h1, h2⟩ := hel i (by omega)
      obtain ⟨y0, y1, y2, n', -, hln, g0, g1, g2⟩ := Deep.trod_struct3 he h2
      obtain ⟨_, hlen, hcell⟩ := World.cells?_some h1
      match cs, hlen with
      | [u0, u1, u2], _ =>
        rw [o0, c0] at g0
        rw [o1, c1] at g1
        rw [o2, c2] at g2
        obtain ⟨n0, e0, -, w0⟩ := DataW.trod_int k0 g0
        obtain ⟨n1, e1, -, w1⟩ := DataW.trod_int k1 g1
        obtain ⟨n2, e2, -, w2⟩ := DataW.trod_int k2 g2
        simp at e0 e1 e2
        subst e0; subst e1; subst e2
        have q0 := hcell 0 (by omega)
        have q1 := hcell 1 (by omega)
        have q2 := hcell 2 (by omega)
        rw [Deep.add_add] at q0 q1 q2
        exact ⟨⟨n0, n1, n2⟩, ⟨by simpa using q0, by simpa using q1, by simpa using q2⟩, w0, w1, w2⟩)
    have hget : ∀ i r, ((List.range len).map f)[i]? = some r → InIn w a i r := by
      intro i r hi
      rw [List.getElem?_map] at hi
      obtain ⟨j, hj, rfl⟩ := Option.map_eq_some_iff.1 hi
      obtain ⟨hlt, rfl⟩ := List.getElem?_eq_some_iff.1 hj
      rw [List.length_range] at hlt
      simp only [List.getElem_range]
      exact hf i hlt
    refine ⟨(List.range len).map f, ?_, ?_⟩
    · by_cases h0 : len = 0
      · subst h0
        exact .inl ⟨_, _, rfl, rfl, rfl⟩
      · obtain ⟨b, off, spot⟩ := a
        obtain ⟨⟨hz, -, -⟩, -⟩ := hf 0 (by omega)
        have hspot : spot = none := by simpa [Addr.add] using World.cell?_spot hz
        subst hspot
        refine ins_read _ (by simp) hl hm (by omega) fun i r hi => ?_
        have := (hget i r hi).1
        rw [addr_add, addr_add, addr_add] at this
        exact this
    · intro r hr
      obtain ⟨i, hi⟩ := List.mem_iff_getElem?.1 hr
      exact (hget i r hi).2

end Go.Proofs.Ytllecjhfbojgcaa
