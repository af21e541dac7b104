/-
  The map of records that input.Open fills.
-/
import Derived.Test.YtllecjhfbojgcaaInAt
import Derived.Maps.OwnSet
namespace Go.Proofs.Ytllecjhfbojgcaa
open Go.RowKit
set_option maxRecDepth 20000
open Go.Maps (Keyed IsMap Tidy)
set_option maxRecDepth 20000

/-- How a record reads. -/
def inElem (v : Value) : Option (DataW Unit × List MemPlace) := match v with
  | .agg cs => match cs.toList with
    | [.int .i64 p, .int .i64 k, .int .i64 x] => some (.agg [.lit (.int .i64 p), .lit (.int .i64 k), .lit (.int .i64 x)], [])
    | _ => none
  | _ => none
def InR.data (x : InR) : DataW Unit := .agg [.lit (.int .i64 x.part), .lit (.int .i64 x.key), .lit (.int .i64 x.val)]
theorem inElem_val (x : InR) : inElem x.val' = some (x.data, []) := rfl
theorem inElem_inv {v : Value} {x : InR} {ps : List MemPlace} (h : inElem v = some (x.data, ps)) : v = x.val' := by
  unfold inElem at h
  split at h
  · rename_i cs
    split at h
    · rename_i p k y hl
      simp only [InR.data, Option.some.injEq, Prod.mk.injEq, DataW.agg.injEq, List.cons.injEq, DataW.lit.injEq, Lit.int.injEq] at h
      obtain ⟨⟨⟨-, h1⟩, ⟨-, h2⟩, ⟨-, h3⟩, -⟩, -⟩ := h
      have : cs = #[.int .i64 p, .int .i64 k, .int .i64 y] := Array.ext' hl
      rw [this, h1, h2, h3]
      rfl
    · cases h
  · cases h

def look (M : List (Int × InR)) (i : Int) : Option InR := (M.find? (fun p => p.1 == i)).map (·.2)

structure MapAt (w : World) (b : Nat) (M : List (Int × InR)) : Prop where
  wf : ∀ p ∈ M, (Lit.int .i64 p.1).wf = true
  at' : ∃ n D, w.ownsMap Try.prog 2 inElem b n D ∧ n ≤ M.length ∧ Maps.size D = M.length ∧ (∀ i, Maps.has D (.int .i64 i) = (look M i).isSome) ∧ ∀ i x, look M i = some x → ∀ z, D.atKey (.int .i64 i) z = x.data

theorem MapAt.made (w : World) : MapAt (w.alloc (.map #[] 0)) w.heap.size [] :=
  ⟨fun p hp => (by cases hp), 0, .map [], World.ownsMap_made w _ _ _, Nat.le_refl _, rfl, fun _ => rfl, fun i x h => (by cases h)⟩
theorem MapAt.kept {w w' : World} {b : Nat} {M : List (Int × InR)} (h : MapAt w b M) (hb : w'.heap[b]? = w.heap[b]?) : MapAt w' b M := by
  obtain ⟨h0, n, D, ⟨es, clock, h1, h2, h3, h4⟩, h5⟩ := h
  exact ⟨h0, n, D, ⟨es, clock, hb.trans h1, h2, h3, h4⟩, h5⟩
theorem MapAt.lt {w : World} {b : Nat} {M : List (Int × InR)} (h : MapAt w b M) : b < w.heap.size := by
  obtain ⟨-, n, D, h, -⟩ := h
  exact h.lt

theorem keyed : Keyed Try.prog 2 := Maps.int_keyed Try.underlying2
theorem key_int {i : Int} (hi : (Lit.int .i64 i).wf = true) : keyOf Try.prog 2 (.int .i64 i) = some (.int .i64 i) := Maps.keyOf_int_mk Try.underlying2 hi
def zeroIn : InR := ⟨0, 0, 0⟩
theorem zero_in (w : World) : (zeroValue 32).run Try.prog w = .ok zeroIn.val' w := by kernel_rfl

theorem MapAt.len {w : World} {b : Nat} {M : List (Int × InR)} (h : MapAt w b M) (ty : TypeId) : (Builtin.len_ #[97] ty #[.map (some b)]).run Try.prog w = .ok (.int .i64 (M.length : Int)) w := by
  obtain ⟨-, n, D, h, -, h2, -⟩ := h
  rw [h.len Try.underlying97 ty, h2]
theorem MapAt.look_none {w : World} {b : Nat} {M : List (Int × InR)} (h : MapAt w b M) {i : Int} (hi : (Lit.int .i64 i).wf = true) (hl : look M i = none) :
    (Instr.lookup 97 (.map (some b)) (.int .i64 i) true).run Try.prog w = .ok (.tuple #[.agg #[.int .i64 0, .int .i64 0, .int .i64 0], .bool false]) w := by
  obtain ⟨-, n, D, h, -, -, h3, -⟩ := h
  obtain ⟨v, ps, hr, hv⟩ := h.look_ok keyed Try.underlying97 (zero_in w) (inElem_val zeroIn) (key_int hi)
  have hh : Maps.has D (.int .i64 i) = false := by rw [h3, hl]; rfl
  rw [Maps.atKey_of_not_has hh] at hv
  rw [hh, inElem_inv hv] at hr
  exact hr
theorem MapAt.look_some {w : World} {b : Nat} {M : List (Int × InR)} (h : MapAt w b M) {i : Int} (hi : (Lit.int .i64 i).wf = true) {x : InR} (hl : look M i = some x) :
    (Instr.lookup 97 (.map (some b)) (.int .i64 i) true).run Try.prog w = .ok (.tuple #[x.val', .bool true]) w := by
  obtain ⟨-, n, D, h, -, -, h3, h4⟩ := h
  obtain ⟨v, ps, hr, hv⟩ := h.look_ok keyed Try.underlying97 (zero_in w) (inElem_val zeroIn) (key_int hi)
  rw [h4 i x hl] at hv
  rw [h3, hl, inElem_inv hv] at hr
  exact hr
theorem look_snoc (M : List (Int × InR)) (i j : Int) (x : InR) : look (M ++ [(i, x)]) j = (look M j).or (if i = j then some x else none) := by
  unfold look
  rw [List.find?_append]
  cases h : M.find? (fun p => p.1 == j) with
  | some p => simp
  | none =>
    by_cases e : i = j
    · simp [e]
    · have : (i == j) = false := by simpa using e
      simp [e, this]
theorem MapAt.store {w : World} {b : Nat} {M : List (Int × InR)} (h : MapAt w b M) (hn : M.length < 1000000) {i : Int} (hi : (Lit.int .i64 i).wf = true) (hl : look M i = none) (x : InR) :
    ∃ w', (Instr.mapUpdate 97 (.map (some b)) (.int .i64 i) x.val').run Try.prog w = .ok () w' ∧ MapAt w' b (M ++ [(i, x)]) ∧ Only (fun k => k = b) w w' := by
  obtain ⟨h0, n, D, h, h1, h2, h3, h4⟩ := h
  have hmap := h.isMap
  have htidy := h.tidy keyed
  obtain ⟨w', hr, ho, ht⟩ := h.store keyed Try.underlying97 (by unfold maxLen; omega) (key_int hi) (inElem_val x)
  have hg := ht.grown
  refine ⟨w', hr, ⟨fun p hp => ?_, n + 1, _, ho, by rw [List.length_append, List.length_singleton]; omega, ?_, fun j => ?_, fun j y hj z => ?_⟩, ⟨hg.os, hg.tape, hg.output, hg.size, fun k hk hne => hg.block k hk (by simpa using hne)⟩⟩
  · rw [List.mem_append, List.mem_singleton] at hp
    rcases hp with hp | rfl
    · exact h0 p hp
    · exact hi
  · rw [Maps.size_put htidy, h3, hl, h2]
    simp
  · rw [look_snoc]
    by_cases e : i = j
    · subst e
      rw [Maps.has_put_same hmap (by simp [WideAt.IsKeyLit]), hl]
      simp
    · rw [Maps.has_put_other (by simpa using fun h => e h.symm), h3, if_neg e]
      simp
  · rw [look_snoc] at hj
    by_cases e : i = j
    · subst e
      rw [hl] at hj
      simp only [if_pos, Option.or_some, Option.some.injEq] at hj
      subst hj
      exact Maps.atKey_put_same hmap (by simp [WideAt.IsKeyLit]) _ _
    · rw [if_neg e] at hj
      simp only [Option.or_none] at hj
      rw [Maps.atKey_put_other (by simpa using fun h => e h.symm)]
      exact h4 j y hj z

end Go.Proofs.Ytllecjhfbojgcaa

/-
  The records of each part, with their numbers: plainly.
-/
namespace Go.Proofs.Ytllecjhfbojgcaa
open Go.RowKit
set_option maxRecDepth 20000

def entI (i : Nat) (x : InR) : Lg.Rec := ⟨1, ⟨(Cl.put [(i : Int), x.key, x.val]).toArray⟩⟩
/-- The records of a part, with their numbers from n on. -/
def pairsN (p : Int) : Nat → List InR → List (Nat × InR)
  | _, [] => []
  | n, x :: rs => if x.part = p then (n, x) :: pairsN p (n + 1) rs else pairsN p (n + 1) rs
def pairsI (p : Int) (rs : List InR) : List (Nat × InR) := pairsN p 0 rs
def ents (p : Int) (rs : List InR) : List Lg.Rec := (pairsI p rs).map fun q => entI q.1 q.2
def keyed' (l : List (Nat × InR)) : List (Int × InR) := l.map fun q => ((q.1 : Int), q.2)

theorem pairsN_snoc (p : Int) (rs : List InR) (x : InR) : ∀ n, pairsN p n (rs ++ [x]) = pairsN p n rs ++ (if x.part = p then [(n + rs.length, x)] else []) := by
  induction rs with
  | nil => intro n; simp [pairsN]
  | cons y rs ih =>
    intro n
    show (if y.part = p then (n, y) :: pairsN p (n + 1) (rs ++ [x]) else pairsN p (n + 1) (rs ++ [x])) = (if y.part = p then (n, y) :: pairsN p (n + 1) rs else pairsN p (n + 1) rs) ++ _
    rw [ih, List.length_cons, show n + 1 + rs.length = n + (rs.length + 1) by omega]
    split <;> simp
theorem ents_snoc (p : Int) (rs : List InR) (x : InR) : ents p (rs ++ [x]) = ents p rs ++ (if x.part = p then [entI rs.length x] else []) := by
  unfold ents pairsI
  rw [pairsN_snoc, List.map_append, Nat.zero_add]
  split <;> rfl
theorem ents_len (p : Int) (rs : List InR) : (ents p rs).length = (pairsI p rs).length := by simp [ents]

theorem pairsN_mem (p : Int) (rs : List InR) : ∀ n q, q ∈ pairsN p n rs → q.2.part = p ∧ n ≤ q.1 ∧ q.1 < n + rs.length ∧ rs[q.1 - n]? = some q.2 := by
  induction rs with
  | nil => intro n q h; cases h
  | cons x rs ih =>
    intro n q h
    have hrest : q ∈ pairsN p (n + 1) rs → q.2.part = p ∧ n ≤ q.1 ∧ q.1 < n + (x :: rs).length ∧ (x :: rs)[q.1 - n]? = some q.2 := fun h => by
      obtain ⟨h1, h2, h3, h4⟩ := ih (n + 1) q h
      refine ⟨h1, by omega, by rw [List.length_cons]; omega, ?_⟩
      rw [show q.1 - n = (q.1 - (n + 1)) + 1 by omega, List.getElem?_cons_succ]
      exact h4
    unfold pairsN at h
    split at h
    · rename_i hp
      rcases List.mem_cons.1 h with rfl | h
      · exact ⟨hp, Nat.le_refl _, by simp, by simp⟩
      · exact hrest h
    · exact hrest h
theorem pairsN_le (p : Int) (rs : List InR) : ∀ n, (pairsN p n rs).length ≤ rs.length := by
  induction rs with
  | nil => intro n; exact Nat.le_refl _
  | cons x rs ih =>
    intro n
    have := ih (n + 1)
    unfold pairsN
    split <;> simp <;> omega
theorem pairsN_sorted (p : Int) (rs : List InR) : ∀ n, (pairsN p n rs).Pairwise (fun a b => a.1 < b.1) := by
  induction rs with
  | nil => intro n; exact List.Pairwise.nil
  | cons x rs ih =>
    intro n
    unfold pairsN
    split
    · exact List.Pairwise.cons (fun q hq => by have := (pairsN_mem p rs (n + 1) q hq).2.1; show n < q.1; omega) (ih (n + 1))
    · exact ih (n + 1)
theorem pairsN_len (rs : List InR) (h : ∀ x ∈ rs, x.part = 0 ∨ x.part = 1) : ∀ n, (pairsN 0 n rs).length + (pairsN 1 n rs).length = rs.length := by
  induction rs with
  | nil => intro n; rfl
  | cons x rs ih =>
    intro n
    have := ih (fun y hy => h y (List.mem_cons_of_mem _ hy)) (n + 1)
    unfold pairsN
    rcases h x (by simp) with e | e <;> simp [e] <;> omega
theorem pairsN_at (p : Int) (rs : List InR) : ∀ n i x, rs[i]? = some x → x.part = p → (n + i, x) ∈ pairsN p n rs := by
  induction rs with
  | nil => intro n i x h; simp at h
  | cons y rs ih =>
    intro n i x h hp
    unfold pairsN
    cases i with
    | zero =>
      simp only [List.getElem?_cons_zero, Option.some.injEq] at h
      subst h
      rw [if_pos hp]
      simp
    | succ i =>
      have := ih (n + 1) i x (by simpa using h) hp
      rw [show n + 1 + i = n + (i + 1) by omega] at this
      split
      · exact List.mem_cons_of_mem _ this
      · exact this

theorem look_none_of {l : List (Nat × InR)} {i : Nat} (h : ∀ q ∈ l, q.1 ≠ i) : look (keyed' l) (i : Int) = none := by
  unfold look keyed'
  rw [Option.map_eq_none_iff, List.find?_eq_none]
  intro p hp
  obtain ⟨q, hq, rfl⟩ := List.mem_map.1 hp
  have := h q hq
  simp
  omega
theorem look_some_of {l : List (Nat × InR)} {i : Nat} {x : InR} (h : (i, x) ∈ l) (hu : ∀ q ∈ l, q.1 = i → q.2 = x) : look (keyed' l) (i : Int) = some x := by
  unfold look
  cases hf : (keyed' l).find? (fun p => p.1 == (i : Int)) with
  | none =>
    rw [List.find?_eq_none] at hf
    have := hf ((i : Int), x) (List.mem_map.2 ⟨_, h, rfl⟩)
    simp at this
  | some p =>
    have h1 := List.find?_some hf
    obtain ⟨q, hq, rfl⟩ := List.mem_map.1 (List.mem_of_find?_eq_some hf)
    simp at h1
    simp [hu q hq (by omega)]

theorem pairs_less (p : Int) (rs : List InR) {j k : Nat} {q r : Nat × InR} (h : (pairsI p rs)[j]? = some q) (h' : (pairsI p rs)[k]? = some r) (hjk : j < k) : q.1 < r.1 := by
  obtain ⟨l1, rfl⟩ := List.getElem?_eq_some_iff.1 h
  obtain ⟨l2, rfl⟩ := List.getElem?_eq_some_iff.1 h'
  exact List.pairwise_iff_getElem.1 (pairsN_sorted p rs 0) j k l1 l2 hjk
/-- The k-th record of part p is none of those ahead. -/
theorem look_new0 (rs : List InR) (k : Nat) (q : Nat × InR) (h : (pairsI 0 rs)[k]? = some q) : look (keyed' ((pairsI 0 rs).take k)) (q.1 : Int) = none := by
  refine look_none_of (fun q' hq' => ?_)
  obtain ⟨j, hj⟩ := List.mem_iff_getElem?.1 hq'
  rw [List.getElem?_take] at hj
  split at hj
  · rename_i hjk
    have := pairs_less 0 rs hj h hjk
    omega
  · cases hj
theorem look_new1 (rs : List InR) (k : Nat) (q : Nat × InR) (h : (pairsI 1 rs)[k]? = some q) : look (keyed' (pairsI 0 rs ++ (pairsI 1 rs).take k)) (q.1 : Int) = none := by
  refine look_none_of (fun q' hq' => ?_)
  have h1 := pairsN_mem 1 rs 0 q (List.mem_of_getElem? h)
  rcases List.mem_append.1 hq' with hq' | hq'
  · have h2 := pairsN_mem 0 rs 0 q' hq'
    intro e
    rw [e] at h2
    have := h1.2.2.2.symm.trans h2.2.2.2
    simp only [Option.some.injEq] at this
    rw [this, h2.1] at h1
    exact absurd h1.1 (by decide)
  · obtain ⟨j, hj⟩ := List.mem_iff_getElem?.1 hq'
    rw [List.getElem?_take] at hj
    split at hj
    · rename_i hjk
      have := pairs_less 1 rs hj h hjk
      omega
    · cases hj
theorem look_all (rs : List InR) (hp : ∀ x ∈ rs, x.part = 0 ∨ x.part = 1) (i : Nat) (x : InR) (h : rs[i]? = some x) : look (keyed' (pairsI 0 rs ++ pairsI 1 rs)) (i : Int) = some x := by
  refine look_some_of ?_ (fun q hq e => ?_)
  · rcases hp x (List.mem_of_getElem? h) with e | e
    · have := pairsN_at 0 rs 0 i x h e
      rw [Nat.zero_add] at this
      exact List.mem_append.2 (.inl this)
    · have := pairsN_at 1 rs 0 i x h e
      rw [Nat.zero_add] at this
      exact List.mem_append.2 (.inr this)
  · have h4 : rs[q.1 - 0]? = some q.2 := by
      rcases List.mem_append.1 hq with hq | hq
      · exact (pairsN_mem 0 rs 0 q hq).2.2.2
      · exact (pairsN_mem 1 rs 0 q hq).2.2.2
    rw [Nat.sub_zero, e, h] at h4
    exact (Option.some.inj h4).symm
end Go.Proofs.Ytllecjhfbojgcaa
