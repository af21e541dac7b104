/-
  The map of records that input.Open fills.
-/
import Derived.Test.YtllecjhfbojgcaaInAt
import Derived.Maps.OwnSet
import Derived.Test.YtllecjhfbojgcaaLogBytes
namespace Go.Proofs.Ytllecjhfbojgcaa
open Go.RowKit
set_option maxRecDepth 20000
open Go.Maps (Keyed IsMap Tidy)
set_option maxRecDepth 20000

/-- How a record reads. -/
def inElem (v : Value) : Option (DataW Unit × List MemPlace) := match v with
  | .agg cs => match cs.toList with
    | [.int .i64 p, .int .i64 k, .int .i64 x] => some (.agg [.lit (.int .i64 p), .lit (.int .i64 k), .lit (.int .i64 x)], [])
    | _ => none
  | _ => none
def InR.data (x : InR) : DataW Unit := .agg [.lit (.int .i64 x.part), .lit (.int .i64 x.key), .lit (.int .i64 x.val)]
theorem inElem_val (x : InR) : inElem x.val' = some (x.data, []) := rfl
theorem inElem_inv {v : Value} {x : InR} {ps : List MemPlace} (h : inElem v = some (x.data, ps)) : v = x.val' := by
  unfold inElem at h
  split at h
  · rename_i cs
    split at h
    · rename_i p k y hl
      simp only [InR.data, Option.some.injEq, Prod.mk.injEq, DataW.agg.injEq, List.cons.injEq, DataW.lit.injEq, Lit.int.injEq] at h
      obtain ⟨⟨⟨-, h1⟩, ⟨-, h2⟩, ⟨-, h3⟩, -⟩, -⟩ := h
      have : cs = #[.int .i64 p, .int .i64 k, .int .i64 y] := Array.ext' hl
      rw [this, h1, h2, h3]
      rfl
    · cases h
  · cases h

def look (M : List (Int × InR)) (i : Int) : Option InR := (M.find? (fun p => p.1 == i)).map (·.2)

structure MapAt (w : World) (b : Nat) (M : List (Int × InR)) : Prop where
  wf : ∀ p ∈ M, (Lit.int .i64 p.1).wf = true
  at' : ∃ n D, w.ownsMap Try.prog 2 inElem b n D ∧ n ≤ M.length ∧ Maps.size D = M.length ∧ (∀ i, Maps.has D (.int .i64 i) = (look M i).isSome) ∧ ∀ i x, look M i = some x → ∀ z, D.atKey (.int .i64 i) z = x.data

theorem MapAt.made (w : World) : MapAt (w.alloc (.map #[] 0)) w.heap.size [] :=
  ⟨fun p hp => (by cases hp), 0, .map [], World.ownsMap_made w _ _ _, Nat.le_refl _, rfl, fun _ => rfl, fun i x h => (by cases h)⟩
theorem MapAt.kept {w w' : World} {b : Nat} {M : List (Int × InR)} (h : MapAt w b M) (hb : w'.heap[b]? = w.heap[b]?) : MapAt w' b M := by
  obtain ⟨h0, n, D, ⟨es, clock, h1, h2, h3, h4⟩, h5⟩ := h
  exact ⟨h0, n, D, ⟨es, clock, hb.trans h1, h2, h3, h4⟩, h5⟩
theorem MapAt.lt {w : World} {b : Nat} {M : List (Int × InR)} (h : MapAt w b M) : b < w.heap.size := by
  obtain ⟨-, n, D, h, -⟩ := h
  exact h.lt

theorem keyed : Keyed Try.prog 2 := Maps.int_keyed Try.underlying2
theorem key_int {i : Int} (hi : (Lit.int .i64 i).wf = true) : keyOf Try.prog 2 (.int .i64 i) = some (.int .i64 i) := Maps.keyOf_int_mk Try.underlying2 hi
def zeroIn : InR := ⟨0, 0, 0⟩
theorem zero_in (w : World) : (zeroValue 32).run Try.prog w = .ok zeroIn.val' w := by kernel_rfl

theorem MapAt.len {w : World} {b : Nat} {M : List (Int × InR)} (h : MapAt w b M) (ty : TypeId) : (Builtin.len_ #[97] ty #[.map (some b)]).run Try.prog w = .ok (.int .i64 (M.length : Int)) w := by
  obtain ⟨-, n, D, h, -, h2, -⟩ := h
  rw [h.len Try.underlying97 ty, h2]
theorem MapAt.look_none {w : World} {b : Nat} {M : List (Int × InR)} (h : MapAt w b M) {i : Int} (hi : (Lit.int .i64 i).wf = true) (hl : look M i = none) :
    (Instr.lookup 97 (.map (some b)) (.int .i64 i) true).run Try.prog w = .ok (.tuple #[.agg #[.int .i64 0, .int .i64 0, .int .i64 0], .bool false]) w := by
  obtain ⟨-, n, D, h, -, -, h3, -⟩ := h
  obtain ⟨v, ps, hr, hv⟩ := h.look_ok keyed Try.underlying97 (zero_in w) (inElem_val zeroIn) (key_int hi)
  have hh : Maps.has D (.int .i64 i) = false := by rw [h3, hl]; rfl
  rw [Maps.atKey_of_not_has hh] at hv
  rw [hh, inElem_inv hv] at hr
  exact hr
theorem MapAt.look_some {w : World} {b : Nat} {M : List (Int × InR)} (h : MapAt w b M) {i : Int} (hi : (Lit.int .i64 i).wf = true) {x : InR} (hl : look M i = some x) :
    (Instr.lookup 97 (.map (some b)) (.int .i64 i) true).run Try.prog w = .ok (.tuple #[x.val', .bool true]) w := by
  obtain ⟨-, n, D, h, -, -, h3, h4⟩ := h
  obtain ⟨v, ps, hr, hv⟩ := h.look_ok keyed Try.underlying97 (zero_in w) (inElem_val zeroIn) (key_int hi)
  rw [h4 i x hl] at hv
  rw [h3, hl, inElem_inv hv] at hr
  exact hr
theorem look_snoc (M : List (Int × InR)) (i j : Int) (x : InR) : look (M ++ [(i, x)]) j = (look M j).or (if i = j then some x else none) := by
  unfold look
  rw [List.find?_append]
  cases h : M.find? (fun p => p.1 == j) with
  | some p => simp
  | none =>
    by_cases e : i = j
    · simp [e]
    · have : (i == j) = false := by simpa using e
      simp [e, this]
theorem MapAt.store {w : World} {b : Nat} {M : List (Int × InR)} (h : MapAt w b M) (hn : M.length < 1000000000) {i : Int} (hi : (Lit.int .i64 i).wf = true) (hl : look M i = none) (x : InR) :
    ∃ w', (Instr.mapUpdate 97 (.map (some b)) (.int .i64 i) x.val').run Try.prog w = .ok () w' ∧ MapAt w' b (M ++ [(i, x)]) ∧ Only (fun k => k = b) w w' := by
  obtain ⟨h0, n, D, h, h1, h2, h3, h4⟩ := h
  have hmap := h.isMap
  have htidy := h.tidy keyed
  obtain ⟨w', hr, ho, ht⟩ := h.store keyed Try.underlying97 (by unfold maxLen; omega) (key_int hi) (inElem_val x)
  have hg := ht.grown
  refine ⟨w', hr, ⟨fun p hp => ?_, n + 1, _, ho, by rw [List.length_append, List.length_singleton]; omega, ?_, fun j => ?_, fun j y hj z => ?_⟩, ⟨hg.os, hg.tape, hg.output, hg.size, fun k hk hne => hg.block k hk (by simpa using hne)⟩⟩
  · rw [List.mem_append, List.mem_singleton] at hp
    rcases hp with hp | rfl
    · exact h0 p hp
    · exact hi
  · rw [Maps.size_put htidy, h3, hl, h2]
    simp
  · rw [look_snoc]
    by_cases e : i = j
    · subst e
      rw [Maps.has_put_same hmap (by simp [WideAt.IsKeyLit]), hl]
      simp
    · rw [Maps.has_put_other (by simpa using fun h => e h.symm), h3, if_neg e]
      simp
  · rw [look_snoc] at hj
    by_cases e : i = j
    · subst e
      rw [hl] at hj
      simp only [if_pos, Option.or_some, Option.some.injEq] at hj
      subst hj
      exact Maps.atKey_put_same hmap (by simp [WideAt.IsKeyLit]) _ _
    · rw [if_neg e] at hj
      simp only [Option.or_none] at hj
      rw [Maps.atKey_put_other (by simpa using fun h => e h.symm)]
      exact h4 j y hj z

end Go.Proofs.Ytllecjhfbojgcaa

/-
  The records of each part, with their numbers: plainly.
-/
namespace Go.Proofs.Ytllecjhfbojgcaa
open Go.RowKit
set_option maxRecDepth 20000

def entI (i : Nat) (x : InR) : Lg.Rec := ⟨1, ⟨(Cl.put [(i : Int), x.key, x.val]).toArray⟩⟩
/-- The records of a part, with their numbers from n on. -/
def pairsN (p : Int) : Nat → List InR → List (Nat × InR)
  | _, [] => []
  | n, x :: rs => if x.part = p then (n, x) :: pairsN p (n + 1) rs else pairsN p (n + 1) rs
def pairsI (p : Int) (rs : List InR) : List (Nat × InR) := pairsN p 0 rs
def ents (p : Int) (rs : List InR) : List Lg.Rec := (pairsI p rs).map fun q => entI q.1 q.2
def keyed' (l : List (Nat × InR)) : List (Int × InR) := l.map fun q => ((q.1 : Int), q.2)

theorem pairsN_snoc (p : Int) (rs : List InR) (x : InR) : ∀ n, pairsN p n (rs ++ [x]) = pairsN p n rs ++ (if x.part = p then [(n + rs.length, x)] else []) := by
  induction rs with
  | nil => intro n; simp [pairsN]
  | cons y rs ih =>
    intro n
    show (if y.part = p then (n, y) :: pairsN p (n + 1) (rs ++ [x]) else pairsN p (n + 1) (rs ++ [x])) = (if y.part = p then (n, y) :: pairsN p (n + 1) rs else pairsN p (n + 1) rs) ++ _
    rw [ih, List.length_cons, show n + 1 + rs.length = n + (rs.length + 1) by omega]
    split <;> simp
theorem ents_snoc (p : Int) (rs : List InR) (x : InR) : ents p (rs ++ [x]) = ents p rs ++ (if x.part = p then [entI rs.length x] else []) := by
  unfold ents pairsI
  rw [pairsN_snoc, List.map_append, Nat.zero_add]
  split <;> rfl
theorem ents_len (p : Int) (rs : List InR) : (ents p rs).length = (pairsI p rs).length := by simp [ents]

theorem pairsN_mem (p : Int) (rs : List InR) : ∀ n q, q ∈ pairsN p n rs → q.2.part = p ∧ n ≤ q.1 ∧ q.1 < n + rs.length ∧ rs[q.1 - n]? = some q.2 := by
  induction rs with
  | nil => intro n q h; cases h
  | cons x rs ih =>
    intro n q h
    have hrest : q ∈ pairsN p (n + 1) rs → q.2.part = p ∧ n ≤ q.1 ∧ q.1 < n + (x :: rs).length ∧ (x :: rs)[q.1 - n]? = some q.2 := fun h => by
      obtain ⟨h1, h2, h3, h4⟩ := ih (n + 1) q h
      refine ⟨h1, by omega, by rw [List.length_cons]; omega, ?_⟩
      rw [show q.1 - n = (q.1 - (n + 1)) + 1 by omega, List.getElem?_cons_succ]
      exact h4
    unfold pairsN at h
    split at h
    · rename_i hp
      rcases List.mem_cons.1 h with rfl | h
      · exact ⟨hp, Nat.le_refl _, by simp, by simp⟩
      · exact hrest h
    · exact hrest h
theorem pairsN_le (p : Int) (rs : List InR) : ∀ n, (pairsN p n rs).length ≤ rs.length := by
  induction rs with
  | nil => intro n; exact Nat.le_refl _
  | cons x rs ih =>
    intro n
    have := ih (n + 1)
    unfold pairsN
    split <;> simp <;> omega
theorem pairsN_sorted (p : Int) (rs : List InR) : ∀ n, (pairsN p n rs).Pairwise (fun a b => a.1 < b.1) := by
  induction rs with
  | nil => intro n; exact List.Pairwise.nil
  | cons x rs ih =>
    intro n
    unfold pairsN
    split
    · exact List.Pairwise.cons (fun q hq => by have := (pairsN_mem p rs (n + 1) q hq).2.1; show n < q.1; omega) (ih (n + 1))
    · exact ih (n + 1)
theorem pairsN_len (rs : List InR) (h : ∀ x ∈ rs, x.part = 0 ∨ x.part = 1) : ∀ n, (pairsN 0 n rs).length + (pairsN 1 n rs).length = rs.length := by
  induction rs with
  | nil => intro n; rfl
  | cons x rs ih =>
    intro n
    have := ih (fun y hy => h y (List.mem_cons_of_mem _ hy)) (n + 1)
    unfold pairsN
    rcases h x (by simp) with e | e <;> simp [e] <;> omega
theorem pairsN_at (p : Int) (rs : List InR) : ∀ n i x, rs[i]? = some x → x.part = p → (n + i, x) ∈ pairsN p n rs := by
  induction rs with
  | nil => intro n i x h; simp at h
  | cons y rs ih =>
    intro n i x h hp
    unfold pairsN
    cases i with
    | zero =>
      simp only [List.getElem?_cons_zero, Option.some.injEq] at h
      subst h
      rw [if_pos hp]
      simp
    | succ i =>
      have := ih (n + 1) i x (by simpa using h) hp
      rw [show n + 1 + i = n + (i + 1) by omega] at this
      split
      · exact List.mem_cons_of_mem _ this
      · exact this

theorem look_none_of {l : List (Nat × InR)} {i : Nat} (h : ∀ q ∈ l, q.1 ≠ i) : look (keyed' l) (i : Int) = none := by
  unfold look keyed'
  rw [Option.map_eq_none_iff, List.find?_eq_none]
  intro p hp
  obtain ⟨q, hq, rfl⟩ := List.mem_map.1 hp
  have := h q hq
  simp
  omega
theorem look_some_of {l : List (Nat × InR)} {i : Nat} {x : InR} (h : (i, x) ∈ l) (hu : ∀ q ∈ l, q.1 = i → q.2 = x) : look (keyed' l) (i : Int) = some x := by
  unfold look
  cases hf : (keyed' l).find? (fun p => p.1 == (i : Int)) with
  | none =>
    rw [List.find?_eq_none] at hf
    have := hf ((i : Int), x) (List.mem_map.2 ⟨_, h, rfl⟩)
    simp at this
  | some p =>
    have h1 := List.find?_some hf
    obtain ⟨q, hq, rfl⟩ := List.mem_map.1 (List.mem_of_find?_eq_some hf)
    simp at h1
    simp [hu q hq (by omega)]

theorem pairs_less (p : Int) (rs : List InR) {j k : Nat} {q r : Nat × InR} (h : (pairsI p rs)[j]? = some q) (h' : (pairsI p rs)[k]? = some r) (hjk : j < k) : q.1 < r.1 := by
  obtain ⟨l1, rfl⟩ := List.getElem?_eq_some_iff.1 h
  obtain ⟨l2, rfl⟩ := List.getElem?_eq_some_iff.1 h'
  exact List.pairwise_iff_getElem.1 (pairsN_sorted p rs 0) j k l1 l2 hjk
/-- The k-th record of part p is none of those ahead. -/
theorem look_new0 (rs : List InR) (k : Nat) (q : Nat × InR) (h : (pairsI 0 rs)[k]? = some q) : look (keyed' ((pairsI 0 rs).take k)) (q.1 : Int) = none := by
  refine look_none_of (fun q' hq' => ?_)
  obtain ⟨j, hj⟩ := List.mem_iff_getElem?.1 hq'
  rw [List.getElem?_take] at hj
  split at hj
  · rename_i hjk
    have := pairs_less 0 rs hj h hjk
    omega
  · cases hj
theorem look_new1 (rs : List InR) (k : Nat) (q : Nat × InR) (h : (pairsI 1 rs)[k]? = some q) : look (keyed' (pairsI 0 rs ++ (pairsI 1 rs).take k)) (q.1 : Int) = none := by
  refine look_none_of (fun q' hq' => ?_)
  have h1 := pairsN_mem 1 rs 0 q (List.mem_of_getElem? h)
  rcases List.mem_append.1 hq' with hq' | hq'
  · have h2 := pairsN_mem 0 rs 0 q' hq'
    intro e
    rw [e] at h2
    have := h1.2.2.2.symm.trans h2.2.2.2
    simp only [Option.some.injEq] at this
    rw [this, h2.1] at h1
    exact absurd h1.1 (by decide)
  · obtain ⟨j, hj⟩ := List.mem_iff_getElem?.1 hq'
    rw [List.getElem?_take] at hj
    split at hj
    · rename_i hjk
      have := pairs_less 1 rs hj h hjk
      omega
    · cases hj
theorem look_all (rs : List InR) (hp : ∀ x ∈ rs, x.part = 0 ∨ x.part = 1) (i : Nat) (x : InR) (h : rs[i]? = some x) : look (keyed' (pairsI 0 rs ++ pairsI 1 rs)) (i : Int) = some x := by
  refine look_some_of ?_ (fun q hq e => ?_)
  · rcases hp x (List.mem_of_getElem? h) with e | e
    · have := pairsN_at 0 rs 0 i x h e
      rw [Nat.zero_add] at this
      exact List.mem_append.2 (.inl this)
    · have := pairsN_at 1 rs 0 i x h e
      rw [Nat.zero_add] at this
      exact List.mem_append.2 (.inr this)
  · have h4 : rs[q.1 - 0]? = some q.2 := by
      rcases List.mem_append.1 hq with hq | hq
      · exact (pairsN_mem 0 rs 0 q hq).2.2.2
      · exact (pairsN_mem 1 rs 0 q hq).2.2.2
    rw [Nat.sub_zero, e, h] at h4
    exact (Option.some.inj h4).symm
end Go.Proofs.Ytllecjhfbojgcaa

/-
  An input that is being opened: beside it the map's block.
-/
namespace Go.Proofs.Ytllecjhfbojgcaa
open Go.RowKit
set_option maxRecDepth 20000

def InLiveB (w0 : Fr) (w : World) (n d l0 l1 : Nat) (lv : Value) (S : InSt) (b : Nat) : Prop :=
  ∃ F G0 G1 N, InAt w0 w n d l0 l1 lv S F G0 G1 N ∧ b < w.heap.size ∧ ¬ F b ∧ ¬ G0 b ∧ ¬ G1 b ∧ ¬ N b ∧ ¬ w0.K b

theorem InLiveB.live {w0 : Fr} {w : World} {n d l0 l1 : Nat} {lv : Value} {S : InSt} {b : Nat} (h : InLiveB w0 w n d l0 l1 lv S b) : InLive w0 w n d l0 l1 lv S := by
  obtain ⟨F, G0, G1, N, h, -⟩ := h
  exact ⟨F, G0, G1, N, h⟩
theorem InAt.keep {w0 : Fr} {w w' : World} {n d l0 l1 : Nat} {lv : Value} {S : InSt} {F G0 G1 N K : Nat → Prop} (h : InAt w0 w n d l0 l1 lv S F G0 G1 N) (ho : Only K w w') (hK : ∀ k, K k → ¬ F k ∧ ¬ G0 k ∧ ¬ G1 k ∧ ¬ N k ∧ ¬ w0.K k) : InAt w0 w' n d l0 l1 lv S F G0 G1 N := by
  have hs := ho.size
  exact ⟨h.old.only ho (fun i hi => (hK i hi).2.2.2.2), h.disk.only ho (fun k hk hq => (hK k hq).1 hk), h.log0.only ho (fun k hk hq => (hK k hq).2.1 hk), h.log1.only ho (fun k hk hq => (hK k hq).2.2.1 hk),
    (ho.block n (h.lt n h.mem) (fun hq => (hK n hq).2.2.2.1 h.mem)).trans h.cell, h.row.kept (fun g hg => ho.block g (h.lt g (h.own g hg)) (fun hq => (hK g hq).2.2.2.1 (h.own g hg))), h.mem, h.own, fun k hk => Nat.lt_of_lt_of_le (h.lt k hk) hs, h.f0, h.f1, h.fn, h.g01, h.g0n, h.g1n, h.new⟩
theorem InLiveB.below {w0 : Fr} {w w' : World} {n d l0 l1 : Nat} {lv : Value} {S : InSt} {b : Nat} (h : InLiveB w0 w n d l0 l1 lv S b) (hb : Below w.heap.size w w') : InLiveB w0 w' n d l0 l1 lv S b := by
  obtain ⟨F, G0, G1, N, h, h1, h2⟩ := h
  exact ⟨F, G0, G1, N, h.keep (K := fun _ => False) (Only.below hb) (fun _ h => h.elim), Nat.lt_of_lt_of_le h1 hb.size, h2⟩
theorem InLiveB.map {w0 : Fr} {w w' : World} {n d l0 l1 : Nat} {lv : Value} {S : InSt} {b : Nat} (h : InLiveB w0 w n d l0 l1 lv S b) (ho : Only (fun k => k = b) w w') : InLiveB w0 w' n d l0 l1 lv S b := by
  obtain ⟨F, G0, G1, N, h, h1, h2, h3, h4, h5, h6⟩ := h
  exact ⟨F, G0, G1, N, h.keep ho (fun k hk => by rw [show k = b from hk]; exact ⟨h2, h3, h4, h5, h6⟩), Nat.lt_of_lt_of_le h1 ho.size, h2, h3, h4, h5, h6⟩
theorem InLiveB.bne {w0 : Fr} {w : World} {n d l0 l1 : Nat} {lv : Value} {S : InSt} {b : Nat} (h : InLiveB w0 w n d l0 l1 lv S b) : b ≠ n ∧ lv.ownBlock ≠ some b := by
  obtain ⟨F, G0, G1, N, h, h1, h2, h3, h4, h5, h6⟩ := h
  exact ⟨fun e => h5 (e ▸ h.mem), fun e => h5 (h.own b e)⟩

/-- The two logs that were opened, over one disk, with the box and the map's block. -/
theorem InLiveB.ofOpen {w0 : Fr} {w w1 X w2 Y : World} {n b d l0 l1 : Nat} {D2 : Dk.St} {L0 L1 : Lg.St} {F : Nat → Prop}
    (hold : Since w0 w) (hF : ∀ k, F k → ¬ w0.K k) (hFn : ¬ F n) (hFb : ¬ F b) (hn : ¬ w0.K n) (hb : ¬ w0.K b) (hnb : n ≠ b) (hnw : n < w.heap.size) (hbw : b < w.heap.size)
    {F1 G0 : Nat → Prop} (o1 : Only (fun k => F k ∨ False) w w1) (g0 : LogAt w1 l0 d 0 L0 G0) (fg1 : ∀ k, F1 k → ¬ G0 k) (f1 : ∀ k, F1 k → F k ∨ w.heap.size ≤ k) (gn1 : ∀ k, G0 k → False ∨ w.heap.size ≤ k) (hX : Only (fun k => k = n) w1 X)
    (ht2 : Turned2 X w2 l1 d 1 D2 L1 F1 (fun _ => False)) (hY : Only (fun k => k = n) w2 Y) (hc : Y.heap[n]? = some (.cells #[ptr l0 0, ptr l1 0, .slice none 0 0] 96)) :
    InLiveB w0 Y n d l0 l1 (.slice none 0 0) ⟨D2, L0, L1, []⟩ b := by
  have hs1 := o1.size
  have hsX := hX.size
  have hF1n : ¬ F1 n := fun h => by rcases f1 n h with h | h; exact hFn h; omega
  have hG0n : ¬ G0 n := fun h => by rcases gn1 n h with h | h; exact h; omega
  have hF1b : ¬ F1 b := fun h => by rcases f1 b h with h | h; exact hFb h; omega
  have hG0b : ¬ G0 b := fun h => by rcases gn1 b h with h | h; exact h; omega
  have gX := g0.only hX (fun k hk e => hG0n (by rw [← show k = n from e]; exact hk))
  obtain ⟨F2, G1, o2, d2, g1, fg2, f2, gn2⟩ := ht2
  have hs2 := o2.size
  have hsY := hY.size
  have hF2n : ¬ F2 n := fun h => by rcases f2 n h with h | h; exact hF1n h; omega
  have hF2b : ¬ F2 b := fun h => by rcases f2 b h with h | h; exact hF1b h; omega
  have hG1n : ¬ G1 n := fun h => by rcases gn2 n h with h | h; exact h; omega
  have hG1b : ¬ G1 b := fun h => by rcases gn2 b h with h | h; exact h; omega
  have g02 := gX.only o2 (fun k hk e => by rcases e with e | e; exact fg1 k e hk; exact e)
  have hbel : Since w0 Y := by
    have a1 := hold.only o1 (fun i hi => by rcases hi with h | h; exact hF i h; exact h.elim)
    have a2 := a1.only hX (fun i hi => by rw [show i = n from hi]; exact hn)
    have a3 := a2.only o2 (fun i hi => by
      rcases hi with h | h
      · rcases f1 i h with h | h
        · exact hF i h
        · exact hold.fresh h
      · exact h.elim)
    exact a3.only hY (fun i hi => by rw [show i = n from hi]; exact hn)
  refine ⟨F2, G0, G1, fun k => k = n, ⟨hbel, d2.only hY (fun k hk e => hF2n (by rw [← show k = n from e]; exact hk)), g02.only hY (fun k hk e => hG0n (by rw [← show k = n from e]; exact hk)), g1.only hY (fun k hk e => hG1n (by rw [← show k = n from e]; exact hk)), hc, .inl (World.ownsRow_nil _ _ _ _), rfl, fun g hg => by simp [Value.ownBlock] at hg, fun k hk => ?_, fun k hk hg => ?_, fg2, fun k hk e => hF2n (by rw [← show k = n from e]; exact hk), fun k hk hg => ?_, fun k hk e => hG0n (by rw [← show k = n from e]; exact hk), fun k hk e => hG1n (by rw [← show k = n from e]; exact hk), fun k hk => ?_⟩, by omega, hF2b, hG0b, hG1b, fun e => hnb (show b = n from e).symm, hb⟩
  · rw [show k = n from hk]; exact (Array.getElem?_eq_some_iff.1 hc).1
  · rcases f2 k hk with h | h
    · exact fg1 k h hg
    · have := gX.lt k hg; omega
  · rcases gn2 k hg with h | h
    · exact h
    · have := gX.lt k hk; omega
  · rcases hk with hk | hk | hk | hk
    · rcases f2 k hk with h | h
      · rcases f1 k h with h | h
        · exact hF k h
        · exact hold.fresh h
      · exact hold.fresh (by omega)
    · rcases gn1 k hk with h | h
      · exact h.elim
      · exact hold.fresh h
    · rcases gn2 k hk with h | h
      · exact h.elim
      · exact hold.fresh (by omega)
    · rw [show k = n from hk]; exact hn

/-- Behind the append of a record, and the store of the row. -/
theorem in_row_at {w0 : Fr} {w W w3 : World} {n d l0 l1 g cap : Nat} {lv : Value} {S : InSt} {x : InR} {F G0 G1 N : Nat → Prop} (h : InAt w0 w n d l0 l1 lv S F G0 G1 N)
    (hW : Below w.heap.size w W) (hgr : W.grownBy w3 lv.ownBlock) (hown : w3.ownsRow 0 32 3 (.slice (some ⟨g, 0, none⟩) (S.rs.length + 1) cap) (S.rs.length + 1) (inCells S.rs ++ [.int .i64 x.part, .int .i64 x.key, .int .i64 x.val]))
    (hat : lv.ownBlock = some g ∨ W.heap.size ≤ g) (hglt : g < w3.heap.size) :
    InAt w0 (w3.setCell ⟨n, 2, none⟩ (.slice (some ⟨g, 0, none⟩) (S.rs.length + 1) cap)) n d l0 l1 (.slice (some ⟨g, 0, none⟩) (S.rs.length + 1) cap) (S.row x) F G0 G1 (fun k => N k ∨ k = g) := by
  obtain ⟨-, -, hlne⟩ := (show InLive w0 w n d l0 l1 lv S from ⟨F, G0, G1, N, h⟩).cells
  have hlt := h.lt n h.mem
  have hWs := hW.size
  have hgs := hgr.size
  have hkeep : ∀ k, k < w.heap.size → some k ≠ lv.ownBlock → w3.heap[k]? = w.heap[k]? := fun k hk hne => (hgr.block k (by omega) hne).trans (hW.block k hk)
  have hc3 : w3.heap[n]? = some (.cells #[ptr l0 0, ptr l1 0, lv] 96) := (hkeep n hlt (Ne.symm hlne)).trans h.cell
  have hgl : g ≠ n := by
    rcases hat with h | h
    · intro e; rw [e] at h; exact hlne h
    · omega
  have hset : ∀ k, k ≠ n → (w3.setCell ⟨n, 2, none⟩ (.slice (some ⟨g, 0, none⟩) (S.rs.length + 1) cap)).heap[k]? = w3.heap[k]? := fun k hk => Below.heap_setCell _ _ _ _ (by exact hk)
  have ho : Only N w (w3.setCell ⟨n, 2, none⟩ (.slice (some ⟨g, 0, none⟩) (S.rs.length + 1) cap)) := by
    refine ⟨hgr.os.trans hW.os, hgr.tape.trans hW.tape, hgr.output.trans hW.output, by simp; omega, fun k hk hs => ?_⟩
    rw [hset k (fun e => hs (e ▸ h.mem)), hkeep k hk (fun e => hs (h.own k e.symm))]
  have hgo : ∀ k, (N k ∨ k = g) → N k ∨ w.heap.size ≤ k := fun k hk => by
    rcases hk with hk | hk
    · exact .inl hk
    · rcases hat with h1 | h1
      · exact .inl (hk ▸ h.own g h1)
      · right; omega
  refine ⟨h.old.only ho (fun i hi => h.new i (.inr (.inr (.inr hi)))), h.disk.only ho h.fn, h.log0.only ho h.g0n, h.log1.only ho h.g1n, ?_, ?_, .inl h.mem, fun b hb => ?_, fun k hk => ?_, h.f0, h.f1, dis_new' hgo h.fn h.disk.lt, h.g01, dis_new' hgo h.g0n h.log0.lt, dis_new' hgo h.g1n h.log1.lt, fun k hk => ?_⟩
  · rw [cells_set hc3]
    rfl
  · refine .inl ?_
    show World.ownsRow _ 0 _ 3 _ (S.rs ++ [x]).length (inCells (S.rs ++ [x]))
    rw [List.length_append, inCells_snoc]
    refine own_kept hown (fun b hb => ?_)
    simp only [Value.ownBlock, Option.some.injEq] at hb
    subst hb
    exact hset _ hgl
  · simp only [Value.ownBlock, Option.some.injEq] at hb
    exact .inr hb.symm
  · simp only [World.size_setCell]
    rcases hk with hk | hk
    · have := h.lt k hk; omega
    · omega
  · rcases hk with hk | hk | hk | hk
    · exact h.new k (.inl hk)
    · exact h.new k (.inr (.inl hk))
    · exact h.new k (.inr (.inr (.inl hk)))
    · rcases hgo k hk with e | e
      · exact h.new k (.inr (.inr (.inr e)))
      · exact h.old.fresh e

theorem InLiveB.row {w0 : Fr} {w W w3 : World} {n d l0 l1 g cap b : Nat} {lv : Value} {S : InSt} {x : InR} (h : InLiveB w0 w n d l0 l1 lv S b)
    (hW : Below w.heap.size w W) (hgr : W.grownBy w3 lv.ownBlock) (hown : w3.ownsRow 0 32 3 (.slice (some ⟨g, 0, none⟩) (S.rs.length + 1) cap) (S.rs.length + 1) (inCells S.rs ++ [.int .i64 x.part, .int .i64 x.key, .int .i64 x.val]))
    (hat : lv.ownBlock = some g ∨ W.heap.size ≤ g) (hglt : g < w3.heap.size) :
    InLiveB w0 (w3.setCell ⟨n, 2, none⟩ (.slice (some ⟨g, 0, none⟩) (S.rs.length + 1) cap)) n d l0 l1 (.slice (some ⟨g, 0, none⟩) (S.rs.length + 1) cap) (S.row x) b ∧ (w3.setCell ⟨n, 2, none⟩ (.slice (some ⟨g, 0, none⟩) (S.rs.length + 1) cap)).heap[b]? = w.heap[b]? := by
  obtain ⟨hbn, hbl⟩ := h.bne
  obtain ⟨F, G0, G1, N, h, h1, h2, h3, h4, h5, h6⟩ := h
  have hs := hW.size
  have hs3 := hgr.size
  refine ⟨⟨F, G0, G1, _, in_row_at h hW hgr hown hat hglt, by simp only [World.size_setCell]; omega, h2, h3, h4, fun e => ?_, h6⟩, ?_⟩
  · rcases e with e | e
    · exact h5 e
    · rcases hat with h7 | h7
      · exact h5 (e ▸ h.own g h7)
      · omega
  · rw [Below.heap_setCell _ _ _ _ (by show b ≠ n; exact hbn), hgr.block b (by omega) (fun e => hbl e.symm)]
    exact hW.block b h1

end Go.Proofs.Ytllecjhfbojgcaa
