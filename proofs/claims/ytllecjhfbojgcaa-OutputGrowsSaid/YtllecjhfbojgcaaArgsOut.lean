/-
  Rows of the output that came in, as the walks take them.
-/
import Derived.Test.YtllecjhfbojgcaaOutAt
import Derived.ProofKit
import Derived.Deep.Slices
import Derived.Lib.SmallJoins
import Derived.SizedLaws
namespace Go.Proofs.Ytllecjhfbojgcaa
open Go.RowKit Go.ChangeShapes Go.WideShapes
set_option maxRecDepth 20000

instance : Inhabited OutX := ⟨⟨0, 0⟩⟩

theorem okWide_slice_lt {P : Program} {w : World} {r : Reach} {base : Nat} {t e : TypeId} {v : Value} (ht : P.underlying t = some (.slice e)) (h : Value.okWide P w r base t v) : ∀ g, v.ownBlock = some g → g < w.heap.size := by
  intro g hg
  unfold Value.okWide at h
  rw [ht] at h
  have h : Cell.okWide P w r base t v := h
  unfold Cell.okWide at h
  rw [ht] at h
  have h : Cell.ok P w r base t v := h
  unfold Cell.ok at h
  rw [ht] at h
  match v, h with
  | .slice none 0 0, _ => simp [Value.ownBlock] at hg
  | .slice (some a) len cap, h =>
    simp only [Value.ownBlock, Option.some.injEq] at hg
    subst hg
    obtain ⟨-, -, -, -, row, cells, hs, -⟩ := h
    unfold World.shape? at hs
    cases hb : w.heap[a.block]? with
    | none => rw [hb] at hs; simp at hs
    | some o => exact (Array.getElem?_eq_some_iff.1 hb).1

def OutIn (w : World) (a : Addr) (i : Nat) (r : OutX) : Prop :=
  (w.cell? (a.add (i * 2)) = some (.int .i64 r.key) ∧ w.cell? (a.add (i * 2 + 1)) = some (.int .i64 r.val)) ∧
    (Lit.int .i64 r.key).wf = true ∧ (Lit.int .i64 r.val).wf = true

theorem outs_read {w : World} {b off len cap : Nat} (l : List OutX) (hlen : l.length = len) (hl : len ≤ cap) (hm : cap ≤ maxLen) (h0 : 0 < len)
    (h : ∀ i r, l[i]? = some r → w.cell? ⟨b, off + i * 2, none⟩ = some (.int .i64 r.key) ∧ w.cell? ⟨b, off + (i * 2 + 1), none⟩ = some (.int .i64 r.val)) :
    Reads w (.slice (some ⟨b, off, none⟩) len cap) l.length (outCells l) := by
  refine .inr ⟨b, off, cap, by rw [hlen], by omega, hm, ?_, ?_⟩
  · obtain ⟨r, hr⟩ : ∃ r, l[0]? = some r := ⟨_, List.getElem?_eq_getElem (show 0 < l.length by omega)⟩
    exact World.block_lt_of_cell? w ⟨b, off + 0 * 2, none⟩ (h 0 r hr).1
  · intro j c hj
    have hj2 : j < l.length * 2 := by
      have := (List.getElem?_eq_some_iff.1 hj).1
      rwa [outCells_len] at this
    obtain ⟨r, hr⟩ : ∃ r, l[j / 2]? = some r := ⟨_, List.getElem?_eq_getElem (show j / 2 < l.length by omega)⟩
    obtain ⟨r0, r1⟩ := outCells_at l (j / 2) r hr
    obtain ⟨q0, q1⟩ := h (j / 2) r hr
    have hcase : j = j / 2 * 2 ∨ j = j / 2 * 2 + 1 := by omega
    generalize hq : j / 2 = q at *
    rcases hcase with rfl | rfl
    · rw [r0] at hj; rw [← hj]; exact q0
    · rw [r1] at hj; rw [← hj]; exact q1

/-- A slice of rows that came in. -/
theorem reads_outs {H : Type} {enc : TypeId × Value → H} {P : Program} {w : World} {base : Nat} {spare : Nat → Bool} {held : Bool} {t e : TypeId} {f0 f1 : Field} {fuel : Nat} {v : Value} {x : DataW H × List MemPlace}
    (ht : P.underlying t = some (.slice e)) (he : P.underlying e = some (.struct #[f0, f1])) (hc : P.cellsOf e = 2)
    (k0 : P.underlying f0.type = some (.int .i64)) (k1 : P.underlying f1.type = some (.int .i64))
    (o0 : f0.offset = 0) (o1 : f1.offset = 1) (c0 : P.cellsOf f0.type = 1) (c1 : P.cellsOf f1.type = 1)
    (h : DataW.trod enc P w base spare held fuel t [v] = some x) :
    ∃ (l : List OutX), Reads w v l.length (outCells l) ∧ (∀ r ∈ l, (Lit.int .i64 r.key).wf = true ∧ (Lit.int .i64 r.val).wf = true) ∧ (l = [] ∨ ∃ es sp, x.1 = .slice es sp ∧ l.length = es.length) := by
  rcases Deep.open_slice ht h with ⟨hcs, hx⟩ | ⟨a, len, cap, m, n, D, Pl, hcs, _, hl, hm, hmm, hx, hel⟩
  · simp only [List.cons.injEq, and_true] at hcs
    subst hcs
    exact ⟨[], Reads.nil _, by simp, .inl rfl⟩
  · simp only [List.cons.injEq, and_true] at hcs
    subst hcs
    have hle : len ≤ m := by rw [hmm]; split <;> omega
    rw [hc] at hel
    obtain ⟨f, hf⟩ := Deep.choose_lt (α := OutX) (n := len) (p := fun i r => OutIn w a i r) (fun i hi => by
      obtain ⟨cs, h1, h2⟩ := hel i (by omega)
      obtain ⟨y0, y1, n', -, hln, g0, g1⟩ := trod_struct2 he h2
      obtain ⟨_, hlen, hcell⟩ := World.cells?_some h1
      match cs, hlen with
      | [u0, u1], _ =>
        rw [o0, c0] at g0
        rw [o1, c1] at g1
        obtain ⟨n0, e0, -, w0⟩ := DataW.trod_int k0 g0
        obtain ⟨n1, e1, -, w1⟩ := DataW.trod_int k1 g1
        simp at e0 e1
        subst e0; subst e1
        have q0 := hcell 0 (by omega)
        have q1 := hcell 1 (by omega)
        rw [Deep.add_add] at q0 q1
        exact ⟨⟨n0, n1⟩, ⟨by simpa using q0, by simpa using q1⟩, w0, w1⟩)
    have hget : ∀ i r, ((List.range len).map f)[i]? = some r → OutIn w a i r := by
      intro i r hi
      rw [List.getElem?_map] at hi
      obtain ⟨j, hj, rfl⟩ := Option.map_eq_some_iff.1 hi
      obtain ⟨hlt, rfl⟩ := List.getElem?_eq_some_iff.1 hj
      rw [List.length_range] at hlt
      simp only [List.getElem_range]
      exact hf i hlt
    refine ⟨(List.range len).map f, ?_, ?_, .inr ⟨_, _, by rw [hx], by simp⟩⟩
    · by_cases h0 : len = 0
      · subst h0
        exact .inl ⟨_, _, rfl, rfl, rfl⟩
      · obtain ⟨b, off, spot⟩ := a
        obtain ⟨⟨hz, -⟩, -⟩ := hf 0 (by omega)
        have hspot : spot = none := by simpa [Addr.add] using World.cell?_spot hz
        subst hspot
        refine outs_read _ (by simp) hl hm (by omega) fun i r hi => ?_
        have := (hget i r hi).1
        rw [addr_add, addr_add] at this
        exact this
    · intro r hr
      obtain ⟨i, hi⟩ := List.mem_iff_getElem?.1 hr
      exact (hget i r hi).2
theorem outs_in {l : List OutX} (h : ∀ r ∈ l, (Lit.int .i64 r.key).wf = true ∧ (Lit.int .i64 r.val).wf = true) : OIn l := fun r hr => ⟨bounds_i64 (h r hr).1, bounds_i64 (h r hr).2⟩

end Go.Proofs.Ytllecjhfbojgcaa
