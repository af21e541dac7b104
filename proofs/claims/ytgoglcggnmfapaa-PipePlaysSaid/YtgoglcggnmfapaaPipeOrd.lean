/-
  The pipe as PipeOrder uses it: empty messages, a number each.
-/
import Derived.Test.YtgoglcggnmfapaaPipeSame
import Derived.Deep.AppendLies
namespace Go.Proofs.Ytgoglcggnmfapaa
open Go.RowKit Go.Conc

def emptyV (n : Int) : MsgV := ⟨n, 0, .slice none 0 0⟩
def opCells (l : List (Int × Int × Int × Value)) : List Value := l.flatMap fun r => [.int .i64 r.1, .int .i64 r.2.1, .int .i64 r.2.2.1, r.2.2.2]
theorem opCells_cons (r : Int × Int × Int × Value) (l : List (Int × Int × Int × Value)) : opCells (r :: l) = [.int .i64 r.1, .int .i64 r.2.1, .int .i64 r.2.2.1, r.2.2.2] ++ opCells l := rfl
theorem opCells_len (l : List (Int × Int × Int × Value)) : (opCells l).length = l.length * 4 := by
  induction l with
  | nil => rfl
  | cons r l ih => rw [opCells_cons, List.length_append, ih, List.length_cons]; simp; omega
theorem opCells_at (l : List (Int × Int × Int × Value)) : ∀ (k : Nat) (r : Int × Int × Int × Value), l[k]? = some r → (opCells l)[k * 4]? = some (.int .i64 r.1) ∧ (opCells l)[k * 4 + 1]? = some (.int .i64 r.2.1) ∧ (opCells l)[k * 4 + 2]? = some (.int .i64 r.2.2.1) ∧ (opCells l)[k * 4 + 3]? = some r.2.2.2 := by
  induction l with
  | nil => intro k r h; simp at h
  | cons z l ih =>
    intro k r h
    rw [opCells_cons]
    cases k with
    | zero =>
      simp only [List.getElem?_cons_zero, Option.some.injEq] at h
      subst h
      exact ⟨rfl, rfl, rfl, rfl⟩
    | succ k =>
      rw [List.getElem?_cons_succ] at h
      obtain ⟨h0, h1, h2, h3⟩ := ih k r h
      refine ⟨?_, ?_, ?_, ?_⟩
      · rw [List.getElem?_append_right (by simp; omega)]; rw [← h0]; congr 1; simp; omega
      · rw [List.getElem?_append_right (by simp; omega)]; rw [← h1]; congr 1; simp; omega
      · rw [List.getElem?_append_right (by simp; omega)]; rw [← h2]; congr 1; simp; omega
      · rw [List.getElem?_append_right (by simp; omega)]; rw [← h3]; congr 1; simp; omega
theorem reads4 {w : World} {a : Option Addr} {n c : Nat} {l : List (Int × Int × Int × Value)} (h : Reads w (.slice a n c) l.length (opCells l)) (k : Nat) (r : Int × Int × Int × Value) (hr : l[k]? = some r) :
    ∃ b o, a = some ⟨b, o, none⟩ ∧ b < w.heap.size ∧ w.cell? ⟨b, o + k * 4, none⟩ = some (.int .i64 r.1) ∧ w.cell? ⟨b, o + k * 4 + 1, none⟩ = some (.int .i64 r.2.1) ∧ w.cell? ⟨b, o + k * 4 + 2, none⟩ = some (.int .i64 r.2.2.1) ∧ w.cell? ⟨b, o + k * 4 + 3, none⟩ = some r.2.2.2 := by
  have hlt := (List.getElem?_eq_some_iff.1 hr).1
  obtain ⟨b, o, kk, hv, h1, _, hb, hc⟩ := h.some (by omega)
  simp only [Value.slice.injEq] at hv
  obtain ⟨h1', _, h3⟩ := hv
  obtain ⟨g0, g1, g2, g3⟩ := opCells_at l k r hr
  exact ⟨b, o, h1', hb, hc _ _ g0, hc _ _ g1, hc _ _ g2, hc _ _ g3⟩

theorem len_ord (w : World) (pb cb n : Nat) (rs : List Int) (h : PipeAt w pb cb n none (rs.map emptyV)) :
    Calls Try.prog 18 #[.pointer (some ⟨pb, 0, none⟩)] w fun e w' => e = .returned (.int .i64 (rs.length : Int)) ∧ w = w' := by
  refine (len_any w pb cb n none _ h).mono fun e w' ⟨h1, h2⟩ => ⟨?_, h2⟩
  rw [h1, List.length_map]; rfl
theorem put_ord (k : Nat) (w : World) (pb cb n : Nat) (rs : List Int) (h : PipeAt w pb cb n none (rs.map emptyV)) (hf : rs.length < n) :
    Calls Try.prog 11 #[.pointer (some ⟨pb, 0, none⟩), .agg #[.int .i64 (k : Int), .int .i64 0, .slice none 0 0]] w fun e w' => e = .returned (.int .i64 0) ∧ Only (fun k => k = pb ∨ k = cb) w w' ∧ PipeAt w' pb cb n none ((rs ++ [(k : Int)]).map emptyV) := by
  refine (put_empty (k : Int) (Int.natCast_nonneg _) w pb cb n none _ h (by rw [List.length_map]; exact hf)).mono fun e w' ⟨h1, h2, h3⟩ => ⟨h1, h2, ?_⟩
  rw [List.map_append]; exact h3
theorem put_ordf (k : Nat) (w : World) (pb cb n : Nat) (rs : List Int) (h : PipeAt w pb cb n none (rs.map emptyV)) (hf : rs.length = n) :
    Calls Try.prog 11 #[.pointer (some ⟨pb, 0, none⟩), .agg #[.int .i64 (k : Int), .int .i64 0, .slice none 0 0]] w fun e w' => e = .returned (.int .i64 7) ∧ Below w.heap.size w w' :=
  put_empty_full (k : Int) (Int.natCast_nonneg _) w pb cb n none _ h (by rw [List.length_map]; exact hf)
theorem take_ord (w : World) (pb cb n : Nat) (r : Int) (rs : List Int) (h : PipeAt w pb cb n none ((r :: rs).map emptyV)) :
    Calls Try.prog 15 #[.pointer (some ⟨pb, 0, none⟩)] w fun e w' => e = .returned (.tuple #[.agg #[.int .i64 r, .int .i64 0, .slice none 0 0], .int .i64 0]) ∧ Only (fun k => k = pb ∨ k = cb) w w' ∧ PipeAt w' pb cb n none (rs.map emptyV) :=
  take_some w pb cb n none _ (emptyV r) (rs.map emptyV) h rfl ⟨_, _, _, rfl⟩
theorem take_ord0 (w : World) (pb cb n : Nat) (h : PipeAt w pb cb n none (([] : List Int).map emptyV)) :
    Calls Try.prog 15 #[.pointer (some ⟨pb, 0, none⟩)] w fun e w' => e = .returned (.tuple #[.agg #[.int .i64 0, .int .i64 0, .slice none 0 0], .int .i64 4]) ∧ Below w.heap.size w w' :=
  take_none w pb cb n none _ h rfl

theorem own_only {w w' : World} {base : Nat} {e : TypeId} {size : Nat} {v : Value} {n : Nat} {xs : List Value} {pb cb : Nat} (h : w.ownsRow base e size v n xs) (ho : Only (fun k => k = pb ∨ k = cb) w w') (hp : pb < base) (hc : cb < base) : w'.ownsRow base e size v n xs := by
  obtain ⟨h1, h2⟩ := h
  refine ⟨h1, ?_⟩
  rcases h2 with h2 | ⟨g, cap, cur, hv, hg, hcc, h3⟩
  · exact .inl h2
  · refine .inr ⟨g, cap, cur, hv, hg, ?_, h3⟩
    rw [ho.block g (Array.getElem?_eq_some_iff.1 hcc).1 (by omega)]; exact hcc
theorem own_grown {w w' : World} {base : Nat} {e : TypeId} {size : Nat} {v : Value} {n : Nat} {xs : List Value} {r : Option Nat} (h : w.ownsRow base e size v n xs) (hg : w.grownBy w' r) (hne : v.ownBlock = none ∨ v.ownBlock ≠ r) : w'.ownsRow base e size v n xs := by
  obtain ⟨h1, h2⟩ := h
  refine ⟨h1, ?_⟩
  rcases h2 with h2 | ⟨g, cap, cur, hv, hgg, hcc, h3⟩
  · exact .inl h2
  · refine .inr ⟨g, cap, cur, hv, hgg, ?_, h3⟩
    rw [hg.block g (Array.getElem?_eq_some_iff.1 hcc).1 ?_]
    · exact hcc
    · subst hv
      rcases hne with hne | hne
      · cases hne
      · exact hne

/-- What is so between two operations. -/
structure Ord (w0 wr : World) (N pb cb n : Nat) (iv ov : Value) (ins outs rs : List Int) : Prop where
  below : Below w0.heap.size w0 wr
  pipe : PipeAt wr pb cb n none (rs.map emptyV)
  own1 : wr.ownsRow N 2 1 iv ins.length (ints ins)
  own2 : wr.ownsRow N 2 1 ov outs.length (ints outs)
  ne : iv.ownBlock = none ∨ ov.ownBlock = none ∨ iv.ownBlock ≠ ov.ownBlock
  eq : ins = outs ++ rs
  pN : pb < N
  cN : cb < N
  N0 : w0.heap.size ≤ N
  p0 : w0.heap.size ≤ pb
  c0 : w0.heap.size ≤ cb
  NW : N ≤ wr.heap.size

theorem Ord.bel {w0 wr w' : World} {N pb cb n : Nat} {iv ov : Value} {ins outs rs : List Int} (h : Ord w0 wr N pb cb n iv ov ins outs rs) (hb : Below wr.heap.size wr w') : Ord w0 w' N pb cb n iv ov ins outs rs :=
  { h with below := bel_trans h.below hb, pipe := h.pipe.below hb, own1 := own_below h.own1 hb, own2 := own_below h.own2 hb, NW := Nat.le_trans h.NW hb.size }
theorem Ord.len {w0 wr : World} {N pb cb n : Nat} {iv ov : Value} {ins outs rs : List Int} (h : Ord w0 wr N pb cb n iv ov ins outs rs) : rs.length ≤ n ∧ n ≤ 8 := by
  have := h.pipe.room
  rw [List.length_map] at this
  exact ⟨by simpa [held] using this, h.pipe.capB⟩
/-- The pipe's own change. -/
theorem Ord.only {w0 wr w' : World} {N pb cb n : Nat} {iv ov : Value} {ins outs rs : List Int} (h : Ord w0 wr N pb cb n iv ov ins outs rs) (ho : Only (fun k => k = pb ∨ k = cb) wr w') :
    Below w0.heap.size w0 w' ∧ w'.ownsRow N 2 1 iv ins.length (ints ins) ∧ w'.ownsRow N 2 1 ov outs.length (ints outs) ∧ N ≤ w'.heap.size :=
  ⟨only_bel h.below ho (Nat.le_refl _) h.p0 h.c0, own_only h.own1 ho h.pN h.cN, own_only h.own2 ho h.pN h.cN, Nat.le_trans h.NW ho.size⟩
/-- Behind an append to a row of the call. -/
theorem grow_side {w0 W W0 w' : World} {N pb cb n : Nat} {v u : Value} {k j : Nat} {xs ys : List Value} {q : List MsgV} {gg : Nat}
    (hb : Below w0.heap.size w0 W) (hp : PipeAt W pb cb n none q) (o1 : W.ownsRow N 2 1 v k xs) (o2 : W.ownsRow N 2 1 u j ys) (hne : v.ownBlock = none ∨ u.ownBlock = none ∨ v.ownBlock ≠ u.ownBlock)
    (hN0 : w0.heap.size ≤ N) (hpN : pb < N) (hcN : cb < N) (hNW : N ≤ W.heap.size) (h0 : Below W.heap.size W W0) (hg : W0.grownBy w' v.ownBlock) (hat : v.ownBlock = some gg ∨ gg = W0.heap.size) :
    Below w0.heap.size w0 w' ∧ PipeAt w' pb cb n none q ∧ w'.ownsRow N 2 1 u j ys ∧ (some gg ≠ u.ownBlock) ∧ N ≤ w'.heap.size := by
  have hs0 := h0.size
  have hs1 := hg.size
  have hfar : ∀ b, b < N → W0.heap[b]? = W.heap[b]? ∧ w'.heap[b]? = W.heap[b]? := fun b hb => by
    have e1 := h0.block b (by omega)
    refine ⟨e1, ?_⟩
    rw [hg.block b (by omega) (fun e => by have := (o1.lt b e.symm).1; omega), e1]
  have hu : u.ownBlock = none ∨ u.ownBlock ≠ v.ownBlock := by
    rcases hne with h1 | h1 | h1
    · rw [h1]; cases hx : u.ownBlock with
      | none => exact .inl rfl
      | some y => right; simp
    · exact .inl h1
    · exact .inr (Ne.symm h1)
  refine ⟨(bel_trans hb h0).grown hg (by omega) (fun x hx => by have := (o1.lt x hx).1; omega), hp.kept (hfar pb hpN).2 (hfar cb hcN).2 (fun _ _ e => by cases e), own_grown (own_below o2 h0) hg hu, ?_, by omega⟩
  rcases hat with h1 | h1
  · rw [← h1]
    rcases hne with h2 | h2 | h2
    · rw [h2] at h1; cases h1
    · rw [h2, h1]; simp
    · exact h2
  · intro e
    have := (o2.lt gg e.symm).2
    omega

end Go.Proofs.Ytgoglcggnmfapaa
