/-
  Calls of a disk that came in, as the walks take them.
-/
import Derived.Test.YtllecjhfbojgcaaLib
import Derived.ProofKit
import Derived.Deep.Slices
import Derived.Deep.Fields
import Derived.ChangeSame
import Derived.ShutString
namespace Go.Proofs.Ytllecjhfbojgcaa
open Go.RowKit Go.ChangeShapes Go.WideShapes Go.Deep
set_option maxRecDepth 20000

/-- A call: its kind, file, numbers and bytes. -/
structure Dop where
  kind : Int
  f : Int
  n : Int
  m : Int
  s : ByteArray
instance : Inhabited Dop := ⟨⟨0, 0, 0, 0, ⟨#[]⟩⟩⟩
def Dop.cells (o : Dop) : List Value := [.int .i64 o.kind, .int .i64 o.f, .int .i64 o.n, .int .i64 o.m, .string o.s]
def dopCells (l : List Dop) : List Value := l.flatMap Dop.cells
theorem dopCells_cons (r : Dop) (l : List Dop) : dopCells (r :: l) = r.cells ++ dopCells l := rfl
theorem dopCells_len (l : List Dop) : (dopCells l).length = l.length * 5 := by
  induction l with
  | nil => rfl
  | cons r l ih => rw [dopCells_cons, List.length_append, ih, List.length_cons]; simp [Dop.cells]; omega
theorem dopCells_at (l : List Dop) : ∀ (k : Nat) (r : Dop), l[k]? = some r → ∀ j, j < 5 → (dopCells l)[k * 5 + j]? = r.cells[j]? := by
  induction l with
  | nil => intro k r h; simp at h
  | cons z l ih =>
    intro k r h j hj
    rw [dopCells_cons]
    have hz : z.cells.length = 5 := rfl
    cases k with
    | zero =>
      simp only [List.getElem?_cons_zero, Option.some.injEq] at h
      subst h
      rw [List.getElem?_append_left (by rw [hz]; omega)]
      congr 1
      omega
    | succ k =>
      rw [List.getElem?_cons_succ] at h
      rw [List.getElem?_append_right (by rw [hz]; omega), ← ih k r h j hj]
      congr 1
      rw [hz]
      omega
theorem reads5 {w : World} {a : Option Addr} {n c : Nat} {l : List Dop} (h : Reads w (.slice a n c) l.length (dopCells l)) (k : Nat) (r : Dop) (hr : l[k]? = some r) :
    ∃ b o, a = some ⟨b, o, none⟩ ∧ b < w.heap.size ∧ w.cell? ⟨b, o + k * 5, none⟩ = some (.int .i64 r.kind) ∧ w.cell? ⟨b, o + k * 5 + 1, none⟩ = some (.int .i64 r.f) ∧ w.cell? ⟨b, o + k * 5 + 2, none⟩ = some (.int .i64 r.n) ∧ w.cell? ⟨b, o + k * 5 + 3, none⟩ = some (.int .i64 r.m) ∧ w.cell? ⟨b, o + k * 5 + 4, none⟩ = some (.string r.s) := by
  have hlt := (List.getElem?_eq_some_iff.1 hr).1
  obtain ⟨b, o, kk, hv, h1, _, hb, hc⟩ := h.some (by omega)
  simp only [Value.slice.injEq] at hv
  obtain ⟨h1', _, h3⟩ := hv
  have g := dopCells_at l k r hr
  exact ⟨b, o, h1', hb, hc _ _ (g 0 (by omega)), hc _ _ (g 1 (by omega)), hc _ _ (g 2 (by omega)), hc _ _ (g 3 (by omega)), hc _ _ (g 4 (by omega))⟩

section
variable {H : Type} {enc : TypeId × Value → H} {P : Program} {w : World} {base : Nat} {spare : Nat → Bool} {held : Bool}
theorem reads_dops {t e : TypeId} {f0 f1 f2 f3 f4 : Field} {fuel : Nat} {v : Value} {x : DataW H × List MemPlace}
    (ht : P.underlying t = some (.slice e)) (he : P.underlying e = some (.struct #[f0, f1, f2, f3, f4])) (hone : oneCellFields P #[f0, f1, f2, f3, f4] = true) (hC : P.cellsOf e = 5)
    (k0 : P.underlying f0.type = some (.int .i64)) (k1 : P.underlying f1.type = some (.int .i64)) (k2 : P.underlying f2.type = some (.int .i64)) (k3 : P.underlying f3.type = some (.int .i64)) (k4 : P.underlying f4.type = some .string)
    (h : DataW.trod enc P w base spare held fuel t [v] = some x) :
    ∃ (l : List Dop), Reads w v l.length (dopCells l) ∧ ∀ r ∈ l, (Lit.int .i64 r.f).wf = true ∧ (Lit.int .i64 r.n).wf = true ∧ (Lit.int .i64 r.m).wf = true ∧ r.s.size ≤ maxLen := by
  rcases open_slice ht h with ⟨hcs, hx⟩ | ⟨a, len, cap, m, n, D, Pl, hcs, _, hl, hm, hmm, hx, hel⟩
  · simp only [List.cons.injEq, and_true] at hcs
    subst hcs
    exact ⟨[], Reads.nil _, by simp⟩
  · simp only [List.cons.injEq, and_true] at hcs
    subst hcs
    have hle : len ≤ m := by rw [hmm]; split <;> omega
    rw [hC] at hel
    obtain ⟨f, hf⟩ := Deep.choose_lt (α := Dop) (n := len) (p := fun i r => (∀ j, j < 5 → ∃ u, r.cells[j]? = some u ∧ w.cell? (a.add (i * 5 + j)) = some u) ∧ (Lit.int .i64 r.f).wf = true ∧ (Lit.int .i64 r.n).wf = true ∧ (Lit.int .i64 r.m).wf = true ∧ r.s.size ≤ maxLen) (fun i hi => by
      obtain ⟨cs, h1, h2⟩ := hel i (by omega)
      obtain ⟨ys, n', hn', hy, hlen, hyl, hfld⟩ := DataW.trod_struct he h2
      obtain ⟨_, hcl, hat⟩ := World.cells?_some h1
      match cs, hcl with
      | [u0, u1, u2, u3, u4], _ =>
        have fld : ∀ (j : Nat) (fj : Field), (#[f0, f1, f2, f3, f4] : Array Field)[j]? = some fj → fj.offset = j ∧ P.cellsOf fj.type = 1 := fun j fj hj => by
          obtain ⟨ho, hk⟩ := hone_of hone j fj hj
          exact ⟨ho, hk⟩
        have g0 := hfld 0 f0 rfl
        have g1 := hfld 1 f1 rfl
        have g2 := hfld 2 f2 rfl
        have g3 := hfld 3 f3 rfl
        have g4 := hfld 4 f4 rfl
        rw [(fld 0 f0 rfl).1, (fld 0 f0 rfl).2] at g0
        rw [(fld 1 f1 rfl).1, (fld 1 f1 rfl).2] at g1
        rw [(fld 2 f2 rfl).1, (fld 2 f2 rfl).2] at g2
        rw [(fld 3 f3 rfl).1, (fld 3 f3 rfl).2] at g3
        rw [(fld 4 f4 rfl).1, (fld 4 f4 rfl).2] at g4
        have hys : ∀ j, j < 5 → ∃ y, ys[j]? = some y := fun j hj => ⟨ys[j]'(by have : ys.length = 5 := hyl; omega), List.getElem?_eq_getElem _⟩
        obtain ⟨y0, hy0⟩ := hys 0 (by omega)
        obtain ⟨y1, hy1⟩ := hys 1 (by omega)
        obtain ⟨y2, hy2⟩ := hys 2 (by omega)
        obtain ⟨y3, hy3⟩ := hys 3 (by omega)
        obtain ⟨y4, hy4⟩ := hys 4 (by omega)
        rw [hy0] at g0
        rw [hy1] at g1
        rw [hy2] at g2
        rw [hy3] at g3
        rw [hy4] at g4
        obtain ⟨n0, e0, -, -⟩ := DataW.trod_int k0 g0
        obtain ⟨n1, e1, -, w1⟩ := DataW.trod_int k1 g1
        obtain ⟨n2, e2, -, w2⟩ := DataW.trod_int k2 g2
        obtain ⟨n3, e3, -, w3⟩ := DataW.trod_int k3 g3
        obtain ⟨b4, e4, -, w4⟩ := DataW.trod_string k4 g4
        simp at e0 e1 e2 e3 e4
        subst e0; subst e1; subst e2; subst e3; subst e4
        refine ⟨⟨n0, n1, n2, n3, b4⟩, fun j hj => ?_, w1, w2, w3, w4⟩
        have q := hat j (by simpa using hj)
        rw [Deep.add_add] at q
        have hjj : j = 0 ∨ j = 1 ∨ j = 2 ∨ j = 3 ∨ j = 4 := by omega
        rcases hjj with rfl | rfl | rfl | rfl | rfl
        all_goals exact ⟨_, rfl, by simpa using q⟩)
    have hget : ∀ i r, ((List.range len).map f)[i]? = some r → i < len ∧ r = f i := by
      intro i r hi
      rw [List.getElem?_map] at hi
      obtain ⟨j, hj, rfl⟩ := Option.map_eq_some_iff.1 hi
      obtain ⟨hlt, rfl⟩ := List.getElem?_eq_some_iff.1 hj
      rw [List.length_range] at hlt
      exact ⟨hlt, by simp⟩
    refine ⟨(List.range len).map f, ?_, ?_⟩
    · by_cases h0 : len = 0
      · subst h0
        exact .inl ⟨_, _, rfl, rfl, rfl⟩
      · obtain ⟨b, off, spot⟩ := a
        obtain ⟨u, -, hz⟩ := (hf 0 (by omega)).1 0 (by omega)
        have hspot : spot = none := by simpa [Addr.add] using World.cell?_spot hz
        subst hspot
        refine .inr ⟨b, off, cap, by simp, by simp; omega, hm, ?_, fun i c hi => ?_⟩
        · rw [addr_add] at hz
          exact World.block_lt_of_cell? w _ hz
        · have hi2 : i < len * 5 := by
            have := (List.getElem?_eq_some_iff.1 hi).1
            rw [dopCells_len] at this
            simpa using this
          have hq : i / 5 < len := by omega
          have hr : ((List.range len).map f)[i / 5]? = some (f (i / 5)) := by simp [hq]
          have hat := dopCells_at _ _ _ hr (i % 5) (by omega)
          rw [show i / 5 * 5 + i % 5 = i by omega, hi] at hat
          obtain ⟨u, hu, hcell⟩ := (hf (i / 5) hq).1 (i % 5) (by omega)
          rw [hu] at hat
          simp only [Option.some.injEq] at hat
          subst hat
          rw [addr_add, show i / 5 * 5 + i % 5 = i by omega] at hcell
          exact hcell
    · intro r hr
      obtain ⟨i, hi⟩ := List.mem_iff_getElem?.1 hr
      obtain ⟨hlt, rfl⟩ := hget i r hi
      exact (hf i hlt).2
end

end Go.Proofs.Ytllecjhfbojgcaa
