/-
  Calls of an input that came in, as the walks take them.
-/
import Derived.Test.YtllecjhfbojgcaaInAt
import Derived.Test.YtllecjhfbojgcaaLib
import Derived.ProofKit
import Derived.Deep.Slices
import Derived.Deep.Fields
import Derived.ChangeSame
import Derived.ShutString
import Derived.Lib.SmallJoins
namespace Go.Proofs.Ytllecjhfbojgcaa
open Go.RowKit Go.ChangeShapes Go.WideShapes Go.Deep
set_option maxRecDepth 20000

/-- A call: its kind, numbers and record. -/
structure Iop where
  kind : Int
  n : Int
  m : Int
  x : InR
instance : Inhabited Iop := ⟨⟨0, 0, 0, ⟨0, 0, 0⟩⟩⟩
def Iop.cells (o : Iop) : List Value := [.int .i64 o.kind, .int .i64 o.n, .int .i64 o.m, .int .i64 o.x.part, .int .i64 o.x.key, .int .i64 o.x.val]
def iopCells (l : List Iop) : List Value := l.flatMap Iop.cells
theorem iopCells_cons (r : Iop) (l : List Iop) : iopCells (r :: l) = r.cells ++ iopCells l := rfl
theorem iopCells_len (l : List Iop) : (iopCells l).length = l.length * 6 := by
  induction l with
  | nil => rfl
  | cons r l ih => rw [iopCells_cons, List.length_append, ih, List.length_cons]; simp [Iop.cells]; omega
theorem iopCells_at (l : List Iop) : ∀ (k : Nat) (r : Iop), l[k]? = some r → ∀ j, j < 6 → (iopCells l)[k * 6 + j]? = r.cells[j]? := by
  induction l with
  | nil => intro k r h; simp at h
  | cons z l ih =>
    intro k r h j hj
    rw [iopCells_cons]
    have hz : z.cells.length = 6 := rfl
    cases k with
    | zero =>
      simp only [List.getElem?_cons_zero, Option.some.injEq] at h
      subst h
      rw [List.getElem?_append_left (by rw [hz]; omega)]
      congr 1
      omega
    | succ k =>
      rw [List.getElem?_cons_succ] at h
      rw [List.getElem?_append_right (by rw [hz]; omega), ← ih k r h j hj]
      congr 1
      rw [hz]
      omega
theorem reads6 {w : World} {a : Option Addr} {n c : Nat} {l : List Iop} (h : Reads w (.slice a n c) l.length (iopCells l)) (k : Nat) (r : Iop) (hr : l[k]? = some r) :
    ∃ b o, a = some ⟨b, o, none⟩ ∧ b < w.heap.size ∧ w.cell? ⟨b, o + k * 6, none⟩ = some (.int .i64 r.kind) ∧ w.cell? ⟨b, o + k * 6 + 1, none⟩ = some (.int .i64 r.n) ∧ w.cell? ⟨b, o + k * 6 + 2, none⟩ = some (.int .i64 r.m) ∧
      w.cell? ⟨b, o + k * 6 + 3, none⟩ = some (.int .i64 r.x.part) ∧ w.cell? ⟨b, o + k * 6 + 4, none⟩ = some (.int .i64 r.x.key) ∧ w.cell? ⟨b, o + k * 6 + 5, none⟩ = some (.int .i64 r.x.val) := by
  have hlt := (List.getElem?_eq_some_iff.1 hr).1
  obtain ⟨b, o, kk, hv, h1, _, hb, hc⟩ := h.some (by omega)
  simp only [Value.slice.injEq] at hv
  obtain ⟨h1', _, h3⟩ := hv
  have g := iopCells_at l k r hr
  exact ⟨b, o, h1', hb, hc _ _ (g 0 (by omega)), hc _ _ (g 1 (by omega)), hc _ _ (g 2 (by omega)), hc _ _ (g 3 (by omega)), hc _ _ (g 4 (by omega)), hc _ _ (g 5 (by omega))⟩
/-- What is in 64 bits. -/
def IopIn (o : Iop) : Prop := (Lit.int .i64 o.n).wf = true ∧ (Lit.int .i64 o.m).wf = true ∧ (Lit.int .i64 o.x.key).wf = true ∧ (Lit.int .i64 o.x.val).wf = true

section
variable {H : Type} {enc : TypeId × Value → H} {P : Program} {w : World} {base : Nat} {spare : Nat → Bool} {held : Bool}
theorem reads_iops {t e : TypeId} {f0 f1 f2 f3 h0 h1 h2 : Field} {fuel : Nat} {v : Value} {x : DataW H × List MemPlace}
    (ht : P.underlying t = some (.slice e)) (he : P.underlying e = some (.struct #[f0, f1, f2, f3])) (hC : P.cellsOf e = 6)
    (p0 : f0.offset = 0) (p1 : f1.offset = 1) (p2 : f2.offset = 2) (p3 : f3.offset = 3) (s0 : P.cellsOf f0.type = 1) (s1 : P.cellsOf f1.type = 1) (s2 : P.cellsOf f2.type = 1) (s3 : P.cellsOf f3.type = 3)
    (k0 : P.underlying f0.type = some (.int .i64)) (k1 : P.underlying f1.type = some (.int .i64)) (k2 : P.underlying f2.type = some (.int .i64)) (hm : P.underlying f3.type = some (.struct #[h0, h1, h2]))
    (v0 : P.underlying h0.type = some (.int .i64)) (v1 : P.underlying h1.type = some (.int .i64)) (v2 : P.underlying h2.type = some (.int .i64))
    (o0 : h0.offset = 0) (o1 : h1.offset = 1) (o2 : h2.offset = 2) (c0 : P.cellsOf h0.type = 1) (c1 : P.cellsOf h1.type = 1) (c2 : P.cellsOf h2.type = 1)
    (h : DataW.trod enc P w base spare held fuel t [v] = some x) :
    ∃ (l : List Iop), Reads w v l.length (iopCells l) ∧ ∀ r ∈ l, IopIn r := by
  rcases open_slice ht h with ⟨hcs, hx⟩ | ⟨a, len, cap, m, n, D, Pl, hcs, _, hl, hm', hmm, hx, hel⟩
  · simp only [List.cons.injEq, and_true] at hcs
    subst hcs
    exact ⟨[], Reads.nil _, by simp⟩
  · simp only [List.cons.injEq, and_true] at hcs
    subst hcs
    have hle : len ≤ m := by rw [hmm]; split <;> omega
    rw [hC] at hel
    obtain ⟨f, hf⟩ := Deep.choose_lt (α := Iop) (n := len) (p := fun i r => (∀ j, j < 6 → ∃ u, r.cells[j]? = some u ∧ w.cell? (a.add (i * 6 + j)) = some u) ∧ IopIn r) (fun i hi => by
      obtain ⟨cs, h1', h2'⟩ := hel i (by omega)
      obtain ⟨ys, n', hn', hy, hlen, hyl, hfld⟩ := DataW.trod_struct he h2'
      obtain ⟨_, hcl, hat⟩ := World.cells?_some h1'
      match cs, hcl with
      | [u0, u1, u2, u3, u4, u5], _ =>
        have g0 := hfld 0 f0 rfl
        have g1 := hfld 1 f1 rfl
        have g2 := hfld 2 f2 rfl
        have g3 := hfld 3 f3 rfl
        rw [p0, s0] at g0
        rw [p1, s1] at g1
        rw [p2, s2] at g2
        rw [p3, s3] at g3
        have hys : ∀ j, j < 4 → ∃ y, ys[j]? = some y := fun j hj => ⟨ys[j]'(by have : ys.length = 4 := hyl; omega), List.getElem?_eq_getElem _⟩
        obtain ⟨y0, hy0⟩ := hys 0 (by omega)
        obtain ⟨y1, hy1⟩ := hys 1 (by omega)
        obtain ⟨y2, hy2⟩ := hys 2 (by omega)
        obtain ⟨y3, hy3⟩ := hys 3 (by omega)
        rw [hy0] at g0
        rw [hy1] at g1
        rw [hy2] at g2
        rw [hy3] at g3
        obtain ⟨z0, z1, z2, n'', -, -, q0, q1, q2⟩ := Deep.trod_struct3 hm g3
        rw [o0, c0] at q0
        rw [o1, c1] at q1
        rw [o2, c2] at q2
        obtain ⟨n0, e0, -, -⟩ := DataW.trod_int k0 g0
        obtain ⟨n1, e1, -, w1⟩ := DataW.trod_int k1 g1
        obtain ⟨n2, e2, -, w2⟩ := DataW.trod_int k2 g2
        obtain ⟨n3, e3, -, -⟩ := DataW.trod_int v0 q0
        obtain ⟨n4, e4, -, w4⟩ := DataW.trod_int v1 q1
        obtain ⟨n5, e5, -, w5⟩ := DataW.trod_int v2 q2
        simp at e0 e1 e2 e3 e4 e5
        subst e0; subst e1; subst e2; subst e3; subst e4; subst e5
        refine ⟨⟨n0, n1, n2, ⟨n3, n4, n5⟩⟩, fun j hj => ?_, w1, w2, w4, w5⟩
        have q := hat j (by simpa using hj)
        rw [Deep.add_add] at q
        have hjj : j = 0 ∨ j = 1 ∨ j = 2 ∨ j = 3 ∨ j = 4 ∨ j = 5 := by omega
        rcases hjj with rfl | rfl | rfl | rfl | rfl | rfl
        all_goals exact ⟨_, rfl, by simpa using q⟩)
    have hget : ∀ i r, ((List.range len).map f)[i]? = some r → i < len ∧ r = f i := by
      intro i r hi
      rw [List.getElem?_map] at hi
      obtain ⟨j, hj, rfl⟩ := Option.map_eq_some_iff.1 hi
      obtain ⟨hlt, rfl⟩ := List.getElem?_eq_some_iff.1 hj
      rw [List.length_range] at hlt
      exact ⟨hlt, by simp⟩
    refine ⟨(List.range len).map f, ?_, ?_⟩
    · by_cases h0 : len = 0
      · subst h0
        exact .inl ⟨_, _, rfl, rfl, rfl⟩
      · obtain ⟨b, off, spot⟩ := a
        obtain ⟨u, -, hz⟩ := (hf 0 (by omega)).1 0 (by omega)
        have hspot : spot = none := by simpa [Addr.add] using World.cell?_spot hz
        subst hspot
        refine .inr ⟨b, off, cap, by simp, by simp; omega, hm', ?_, fun i c hi => ?_⟩
        · rw [addr_add] at hz
          exact World.block_lt_of_cell? w _ hz
        · have hi2 : i < len * 6 := by
            have := (List.getElem?_eq_some_iff.1 hi).1
            rw [iopCells_len] at this
            simpa using this
          have hq : i / 6 < len := by omega
          have hr : ((List.range len).map f)[i / 6]? = some (f (i / 6)) := by simp [hq]
          have hat := iopCells_at _ _ _ hr (i % 6) (by omega)
          rw [show i / 6 * 6 + i % 6 = i by omega, hi] at hat
          obtain ⟨u, hu, hcell⟩ := (hf (i / 6) hq).1 (i % 6) (by omega)
          rw [hu] at hat
          simp only [Option.some.injEq] at hat
          subst hat
          rw [addr_add, show i / 6 * 6 + i % 6 = i by omega] at hcell
          exact hcell
    · intro r hr
      obtain ⟨i, hi⟩ := List.mem_iff_getElem?.1 hr
      obtain ⟨hlt, rfl⟩ := hget i r hi
      exact (hf i hlt).2
end

end Go.Proofs.Ytllecjhfbojgcaa
