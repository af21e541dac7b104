/-
  Calls of a pipe that came in, with the records of each message.
-/
import Derived.Test.YtgoglcggnmfapaaArgsOp
import Derived.Test.YtgoglcggnmfapaaArgsMsg
namespace Go.Proofs.Ytgoglcggnmfapaa
open Go.RowKit Go.ChangeShapes Go.WideShapes

/-- A call's cells. -/
def opFlat (o : Int × MsgP × Value) : Int × Int × Int × Value := (o.1, o.2.1.seq, o.2.1.bar, o.2.2)
def OpIn2 (w : World) (a : Addr) (i : Nat) (o : Int × MsgP × Value) : Prop := OpIn w a i (opFlat o) ∧ Reads w o.2.2 o.2.1.l.length (recCells o.2.1.l)
instance : Inhabited MsgP := ⟨⟨0, 0, []⟩⟩

/-- A slice of calls that came in. -/
theorem reads_ops2 {H : Type} {enc : TypeId × Value → H} {P : Program} {w : World} {base : Nat} {spare : Nat → Bool} {held : Bool} {t e : TypeId} {k0 k1 f0 f1 f2 : Field} {fuel : Nat} {v : Value} {x : DataW H × List MemPlace}
    (ht : P.underlying t = some (.slice e)) (he : P.underlying e = some (.struct #[k0, k1])) (hc : P.cellsOf e = 4)
    (u0 : P.underlying k0.type = some (.int .i64)) (p0 : k0.offset = 0) (s0 : P.cellsOf k0.type = 1) (p1 : k1.offset = 1) (s1 : P.cellsOf k1.type = 3)
    (hm : P.underlying k1.type = some (.struct #[f0, f1, f2]))
    (v0 : P.underlying f0.type = some (.int .i64)) (v1 : P.underlying f1.type = some (.int .i64))
    (o0 : f0.offset = 0) (o1 : f1.offset = 1) (o2 : f2.offset = 2) (c0 : P.cellsOf f0.type = 1) (c1 : P.cellsOf f1.type = 1) (c2 : P.cellsOf f2.type = 1)
    (hrt : ∀ fuel v x, DataW.trod enc P w base spare held fuel f2.type [v] = some x → ∃ l : List (Int × Int × Int), Reads w v l.length (recCells l))
    (h : DataW.trod enc P w base spare held fuel t [v] = some x) :
    ∃ (l : List (Int × MsgP × Value)), Reads w v l.length (opCells (l.map opFlat)) ∧ ∀ o ∈ l, Reads w o.2.2 o.2.1.l.length (recCells o.2.1.l) := by
  rcases Deep.open_slice ht h with ⟨hcs, hx⟩ | ⟨a, len, cap, m, n, D, Pl, hcs, _, hl, hm', hmm, hx, hel⟩
  · simp only [List.cons.injEq, and_true] at hcs
    subst hcs
    exact ⟨[], Reads.nil _, by simp⟩
  · simp only [List.cons.injEq, and_true] at hcs
    subst hcs
    have hle : len ≤ m := by rw [hmm]; split <;> omega
    rw [hc] at hel
    obtain ⟨f, hf⟩ := Deep.choose_lt (α := Int × MsgP × Value) (n := len) (p := fun i r => OpIn2 w a i r) (fun i hi => by
      obtain ⟨cs, h1, h2⟩ := hel i (by omega)
      obtain ⟨y0, y1, n', -, hln, g0, g1⟩ := trod_struct2 he h2
      obtain ⟨_, hlen, hcell⟩ := World.cells?_some h1
      match cs, hlen with
      | [b0, b1, b2, b3], _ =>
        rw [p0, s0] at g0
        rw [p1, s1] at g1
        obtain ⟨z0, z1, z2, n'', -, -, q0, q1, q2⟩ := Deep.trod_struct3 hm g1
        rw [o0, c0] at q0
        rw [o1, c1] at q1
        rw [o2, c2] at q2
        obtain ⟨n0, e0, -, -⟩ := DataW.trod_int u0 g0
        obtain ⟨n1, e1, -, -⟩ := DataW.trod_int v0 q0
        obtain ⟨n2, e2, -, -⟩ := DataW.trod_int v1 q1
        obtain ⟨lr, hlr⟩ := hrt _ _ _ q2
        have hs3 : ∃ a k c, b3 = .slice a k c := by obtain ⟨a', c', e⟩ := hlr.shape; exact ⟨_, _, _, e⟩
        simp at e0 e1 e2
        subst e0; subst e1; subst e2
        have t0 := hcell 0 (by omega)
        have t1 := hcell 1 (by omega)
        have t2 := hcell 2 (by omega)
        have t3 := hcell 3 (by omega)
        rw [Deep.add_add] at t0 t1 t2 t3
        exact ⟨(n0, ⟨n1, n2, lr⟩, b3), ⟨⟨by simpa [opFlat] using t0, by simpa [opFlat] using t1, by simpa [opFlat] using t2, by simpa [opFlat] using t3⟩, hs3⟩, hlr⟩)
    have hget : ∀ i r, ((List.range len).map f)[i]? = some r → OpIn2 w a i r := by
      intro i r hi
      rw [List.getElem?_map] at hi
      obtain ⟨j, hj, rfl⟩ := Option.map_eq_some_iff.1 hi
      obtain ⟨hlt, rfl⟩ := List.getElem?_eq_some_iff.1 hj
      rw [List.length_range] at hlt
      simp only [List.getElem_range]
      exact hf i hlt
    refine ⟨(List.range len).map f, ?_, ?_⟩
    · by_cases h0 : len = 0
      · subst h0
        exact .inl ⟨_, _, rfl, rfl, rfl⟩
      · obtain ⟨b, off, spot⟩ := a
        obtain ⟨⟨⟨hz, -, -⟩, -⟩, -⟩ := hf 0 (by omega)
        have hspot : spot = none := by simpa [Addr.add] using World.cell?_spot hz
        subst hspot
        have hrd := ops_read (w := w) (b := b) (off := off) (len := len) (cap := cap) (((List.range len).map f).map opFlat) (by simp) hl hm' (by omega) fun i r hi => ?_
        · rw [List.length_map] at hrd; exact hrd
        rw [List.getElem?_map] at hi
        obtain ⟨o, ho, rfl⟩ := Option.map_eq_some_iff.1 hi
        have := (hget i o ho).1.1
        rw [addr_add, addr_add, addr_add, addr_add] at this
        exact this
    · intro r hr
      obtain ⟨i, hi⟩ := List.mem_iff_getElem?.1 hr
      exact (hget i r hi).2

end Go.Proofs.Ytgoglcggnmfapaa
