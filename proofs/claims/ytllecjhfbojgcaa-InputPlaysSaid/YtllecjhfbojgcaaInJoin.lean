/-
  What the records of two logs come to as an input, plainly: one, or none.
-/
import Derived.Test.YtllecjhfbojgcaaInMap
namespace Go.Proofs.Ytllecjhfbojgcaa
open Go.RowKit
set_option maxRecDepth 20000

/-- The records of two logs are those of an input. -/
structure IsIn (R0 R1 : List Lg.Rec) (rs : List InR) : Prop where
  p : ∀ x ∈ rs, x.part = 0 ∨ x.part = 1
  i : ∀ x ∈ rs, Cl.In64 x.key ∧ Cl.In64 x.val
  r0 : R0 = ents 0 rs
  r1 : R1 = ents 1 rs

def recI (q : Int × InR) : Lg.Rec := ⟨1, ⟨(Cl.put [q.1, q.2.key, q.2.val]).toArray⟩⟩
def rowsR (l : List (Int × InR)) : List Lg.Rec := l.map recI
/-- Rows that may stand in a part's log. -/
def RowsOk (p : Int) (l : List (Int × InR)) : Prop := ∀ q ∈ l, q.2.part = p ∧ Cl.In64 q.1 ∧ Cl.In64 q.2.key ∧ Cl.In64 q.2.val

theorem nums_rec (q : Int × InR) (h : Cl.In64 q.1 ∧ Cl.In64 q.2.key ∧ Cl.In64 q.2.val) : Cl.nums (recI q).text.data.toList = ([q.1, q.2.key, q.2.val], 0) := by
  rw [← Cl.nums_put [q.1, q.2.key, q.2.val] (by
    intro y hy
    simp only [List.mem_cons, List.not_mem_nil, or_false] at hy
    rcases hy with rfl | rfl | rfl
    · exact h.1
    · exact h.2.1
    · exact h.2.2)]
  unfold recI
  simp
/-- A record whose bytes are three numbers. -/
theorem rec_of (p : Int) (r : Lg.Rec) (a b c : Int) (hk : r.kind = 1) (hn : Cl.nums r.text.data.toList = ([a, b, c], 0)) : r = recI (a, ⟨p, b, c⟩) ∧ Cl.In64 a ∧ Cl.In64 b ∧ Cl.In64 c := by
  obtain ⟨h1, h2⟩ := Cl.nums_back _ _ hn
  refine ⟨?_, h2 a (by simp), h2 b (by simp), h2 c (by simp)⟩
  obtain ⟨k, ⟨t⟩⟩ := r
  have hk : k = 1 := hk
  subst hk
  unfold recI
  simp only [h1]
theorem recI_inj {p : Int} {q q' : Int × InR} (h : q.2.part = p ∧ Cl.In64 q.1 ∧ Cl.In64 q.2.key ∧ Cl.In64 q.2.val) (h' : q'.2.part = p ∧ Cl.In64 q'.1 ∧ Cl.In64 q'.2.key ∧ Cl.In64 q'.2.val) (he : recI q = recI q') : q = q' := by
  have h1 := nums_rec q h.2
  have h2 := nums_rec q' h'.2
  rw [he, h2] at h1
  obtain ⟨a, pa, ka, va⟩ := q
  obtain ⟨b, pb, kb, vb⟩ := q'
  obtain ⟨e1, -⟩ := h
  obtain ⟨e2, -⟩ := h'
  simp only [Prod.mk.injEq, List.cons.injEq, and_true] at h1 e1 e2 ⊢
  obtain ⟨h1, h3, h4⟩ := h1
  exact ⟨h1.symm, by rw [e1, e2, h3, h4]⟩
theorem rows_inj {p : Int} : ∀ {l l' : List (Int × InR)}, RowsOk p l → RowsOk p l' → rowsR l = rowsR l' → l = l' := by
  intro l
  induction l with
  | nil =>
    intro l' _ _ h
    cases l' with
    | nil => rfl
    | cons q l' => simp [rowsR] at h
  | cons q l ih =>
    intro l' h1 h2 h
    cases l' with
    | nil => simp [rowsR] at h
    | cons q' l' =>
      simp only [rowsR, List.map_cons, List.cons.injEq] at h
      rw [recI_inj (h1 q (by simp)) (h2 q' (by simp)) h.1, ih (fun x hx => h1 x (by simp [hx])) (fun x hx => h2 x (by simp [hx])) h.2]
theorem rows_take (l : List (Int × InR)) (j : Nat) : rowsR (l.take j) = (rowsR l).take j := by unfold rowsR; rw [List.map_take]

theorem ents_rows (p : Int) (rs : List InR) : ents p rs = rowsR (keyed' (pairsI p rs)) := by
  unfold ents rowsR keyed'
  rw [List.map_map]
  rfl
theorem pairs_ok {p : Int} {rs : List InR} (hi : ∀ x ∈ rs, Cl.In64 x.key ∧ Cl.In64 x.val) (hl : rs.length ≤ 100000000) : RowsOk p (keyed' (pairsI p rs)) := by
  intro q hq
  obtain ⟨q', hq', rfl⟩ := List.mem_map.1 hq
  obtain ⟨h1, h2, h3, h4⟩ := pairsN_mem p rs 0 q' hq'
  have := hi q'.2 (List.mem_of_getElem? h4)
  refine ⟨h1, ?_, this.1, this.2⟩
  unfold Cl.In64
  simp only
  omega
theorem IsIn.len {R0 R1 : List Lg.Rec} {rs : List InR} (h : IsIn R0 R1 rs) : rs.length = R0.length + R1.length := by
  rw [h.r0, h.r1, ents_len, ents_len]
  exact (pairsN_len rs h.p 0).symm
theorem IsIn.rows {R0 R1 : List Lg.Rec} {rs : List InR} (h : IsIn R0 R1 rs) (hl : R0.length + R1.length ≤ 100000000) : RowsOk 0 (keyed' (pairsI 0 rs)) ∧ RowsOk 1 (keyed' (pairsI 1 rs)) :=
  ⟨pairs_ok h.i (by rw [h.len]; exact hl), pairs_ok h.i (by rw [h.len]; exact hl)⟩

/-- What has been read of a part's log is what an input has there. -/
theorem IsIn.take0 {R0 R1 : List Lg.Rec} {rs : List InR} (h : IsIn R0 R1 rs) (hl : R0.length + R1.length ≤ 100000000) {j : Nat} {A : List (Int × InR)} (hA : RowsOk 0 A) (he : R0.take j = rowsR A) : A = (keyed' (pairsI 0 rs)).take j := by
  refine rows_inj hA (fun q hq => (h.rows hl).1 q (List.mem_of_mem_take hq)) ?_
  rw [← he, rows_take, ← ents_rows, ← h.r0]
theorem IsIn.take1 {R0 R1 : List Lg.Rec} {rs : List InR} (h : IsIn R0 R1 rs) (hl : R0.length + R1.length ≤ 100000000) {j : Nat} {A : List (Int × InR)} (hA : RowsOk 1 A) (he : R1.take j = rowsR A) : A = (keyed' (pairsI 1 rs)).take j := by
  refine rows_inj hA (fun q hq => (h.rows hl).2 q (List.mem_of_mem_take hq)) ?_
  rw [← he, rows_take, ← ents_rows, ← h.r1]
theorem IsIn.at0 {R0 R1 : List Lg.Rec} {rs : List InR} (h : IsIn R0 R1 rs) (hl : R0.length + R1.length ≤ 100000000) {j : Nat} {q : Int × InR} (hq : q.2.part = 0 ∧ Cl.In64 q.1 ∧ Cl.In64 q.2.key ∧ Cl.In64 q.2.val) (he : R0[j]? = some (recI q)) : (keyed' (pairsI 0 rs))[j]? = some q := by
  rw [h.r0, ents_rows] at he
  unfold rowsR at he
  rw [List.getElem?_map, Option.map_eq_some_iff] at he
  obtain ⟨q', h1, h2⟩ := he
  rw [h1, recI_inj ((h.rows hl).1 q' (List.mem_of_getElem? h1)) hq h2]
theorem IsIn.at1 {R0 R1 : List Lg.Rec} {rs : List InR} (h : IsIn R0 R1 rs) (hl : R0.length + R1.length ≤ 100000000) {j : Nat} {q : Int × InR} (hq : q.2.part = 1 ∧ Cl.In64 q.1 ∧ Cl.In64 q.2.key ∧ Cl.In64 q.2.val) (he : R1[j]? = some (recI q)) : (keyed' (pairsI 1 rs))[j]? = some q := by
  rw [h.r1, ents_rows] at he
  unfold rowsR at he
  rw [List.getElem?_map, Option.map_eq_some_iff] at he
  obtain ⟨q', h1, h2⟩ := he
  rw [h1, recI_inj ((h.rows hl).2 q' (List.mem_of_getElem? h1)) hq h2]
theorem IsIn.good {R0 R1 : List Lg.Rec} {rs : List InR} (h : IsIn R0 R1 rs) (hl : R0.length + R1.length ≤ 100000000) {r : Lg.Rec} (hr : r ∈ R0 ∨ r ∈ R1) : r.kind = 1 ∧ ∃ a b c, Cl.nums r.text.data.toList = ([a, b, c], 0) := by
  have hh : ∀ (p : Int), RowsOk p (keyed' (pairsI p rs)) → r ∈ ents p rs → r.kind = 1 ∧ ∃ a b c, Cl.nums r.text.data.toList = ([a, b, c], 0) := fun p hk hr => by
    rw [ents_rows] at hr
    obtain ⟨q, hq, rfl⟩ := List.mem_map.1 hr
    exact ⟨rfl, _, _, _, nums_rec q (hk q hq).2⟩
  rcases hr with hr | hr
  · exact hh 0 (h.rows hl).1 (by rw [← h.r0]; exact hr)
  · exact hh 1 (h.rows hl).2 (by rw [← h.r1]; exact hr)

/-- There is but one. -/
theorem IsIn.one {R0 R1 : List Lg.Rec} {rs rs' : List InR} (h : IsIn R0 R1 rs) (h' : IsIn R0 R1 rs') (hl : R0.length + R1.length ≤ 100000000) : rs = rs' := by
  have k0 : keyed' (pairsI 0 rs) = keyed' (pairsI 0 rs') := rows_inj (h.rows hl).1 (h'.rows hl).1 (by rw [← ents_rows, ← ents_rows, ← h.r0, ← h'.r0])
  have k1 : keyed' (pairsI 1 rs) = keyed' (pairsI 1 rs') := rows_inj (h.rows hl).2 (h'.rows hl).2 (by rw [← ents_rows, ← ents_rows, ← h.r1, ← h'.r1])
  have hk : keyed' (pairsI 0 rs ++ pairsI 1 rs) = keyed' (pairsI 0 rs' ++ pairsI 1 rs') := by
    unfold keyed' at *
    rw [List.map_append, List.map_append, k0, k1]
  refine List.ext_getElem (by rw [h.len, h'.len]) (fun i h1 h2 => ?_)
  have e1 := look_all rs h.p i rs[i] (by simp)
  have e2 := look_all rs' h'.p i rs'[i] (by simp)
  rw [hk, e2] at e1
  exact (Option.some.inj e1).symm

/-! What the program's Open goes through. -/

theorem sub_back {α : Type} [BEq α] [LawfulBEq α] : ∀ (l1 l2 : List α), l1.Nodup → (∀ x ∈ l1, x ∈ l2) → l2.length ≤ l1.length → ∀ x ∈ l2, x ∈ l1 := by
  intro l1
  induction l1 with
  | nil =>
    intro l2 _ _ h x hx
    have : l2 = [] := List.eq_nil_of_length_eq_zero (by simpa using h)
    rw [this] at hx
    exact hx
  | cons a l1 ih =>
    intro l2 hn hs hl x hx
    rw [List.nodup_cons] at hn
    have ha := hs a (by simp)
    have hle := List.length_erase_of_mem ha
    have h1 := ih (l2.erase a) hn.2 (fun y hy => (List.mem_erase_of_ne (fun (e : y = a) => hn.1 (by rw [← e]; exact hy))).2 (hs y (by simp [hy]))) (by rw [hle]; simp only [List.length_cons] at hl; omega)
    by_cases e : x = a
    · rw [e]; simp
    · exact List.mem_cons_of_mem _ (h1 x ((List.mem_erase_of_ne e).2 hx))

theorem sorted_same {α : Type} (f : α → Int) : ∀ (l1 l2 : List α), l1.Pairwise (fun a b => f a < f b) → l2.Pairwise (fun a b => f a < f b) → (∀ x, x ∈ l1 ↔ x ∈ l2) → l1 = l2 := by
  intro l1
  induction l1 with
  | nil =>
    intro l2 _ _ h
    cases l2 with
    | nil => rfl
    | cons b l2 => exact absurd ((h b).2 (by simp)) (by simp)
  | cons a l1 ih =>
    intro l2 h1 h2 h
    cases l2 with
    | nil => exact absurd ((h a).1 (by simp)) (by simp)
    | cons b l2 =>
      rw [List.pairwise_cons] at h1 h2
      have hab : a = b := by
        rcases List.mem_cons.1 ((h a).1 (by simp)) with e | e
        · exact e
        · rcases List.mem_cons.1 ((h b).2 (by simp)) with e' | e'
          · exact e'.symm
          · have := h2.1 a e
            have := h1.1 b e'
            omega
      subst hab
      rw [ih l2 h1.2 h2.2 (fun x => ⟨fun hx => ?_, fun hx => ?_⟩)]
      · rcases List.mem_cons.1 ((h x).1 (List.mem_cons_of_mem _ hx)) with e | e
        · have := h1.1 x hx
          rw [e] at this
          omega
        · exact e
      · rcases List.mem_cons.1 ((h x).2 (List.mem_cons_of_mem _ hx)) with e | e
        · have := h2.1 x hx
          rw [e] at this
          omega
        · exact e

theorem look_mem {M : List (Int × InR)} {i : Int} {x : InR} (h : look M i = some x) : (i, x) ∈ M := by
  unfold look at h
  rw [Option.map_eq_some_iff] at h
  obtain ⟨q, h1, rfl⟩ := h
  have h2 := List.find?_some h1
  have h2 : q.1 = i := by simpa using h2
  rw [← h2]
  exact List.mem_of_find?_eq_some h1
theorem look_no {M : List (Int × InR)} {i : Int} (h : look M i = none) : ∀ q ∈ M, q.1 ≠ i := by
  unfold look at h
  rw [Option.map_eq_none_iff, List.find?_eq_none] at h
  intro q hq e
  exact h q hq (by simpa using e)

/-- What has been read of a part's log, behind what was there. -/
structure Fill (p : Int) (R : List Lg.Rec) (pre A : List (Int × InR)) (lx : Int) : Prop where
  rows : R = rowsR A
  ok : RowsOk p A
  sorted : A.Pairwise (fun a b => a.1 < b.1)
  low : ∀ q ∈ A, q.1 ≤ lx
  last : lx = -1 ∨ ∃ q ∈ A, q.1 = lx
  new : ∀ q ∈ A, look pre q.1 = none

theorem Fill.start (p : Int) (pre : List (Int × InR)) : Fill p [] pre [] (-1) :=
  ⟨rfl, fun q h => (by cases h), List.Pairwise.nil, fun q h => (by cases h), .inl rfl, fun q h => (by cases h)⟩
theorem Fill.next {p : Int} {R : List Lg.Rec} {pre A : List (Int × InR)} {lx : Int} (h : Fill p R pre A lx) (q : Int × InR) (hq : q.2.part = p ∧ Cl.In64 q.1 ∧ Cl.In64 q.2.key ∧ Cl.In64 q.2.val) (hx : lx < q.1) (hl : look (pre ++ A) q.1 = none) : Fill p (R ++ [recI q]) pre (A ++ [q]) q.1 := by
  refine ⟨by rw [h.rows]; simp [rowsR], fun x hx => ?_, ?_, fun x hx' => ?_, .inr ⟨q, by simp, rfl⟩, fun x hx => ?_⟩
  · rcases List.mem_append.1 hx with hx | hx
    · exact h.ok x hx
    · rw [List.mem_singleton.1 hx]; exact hq
  · rw [List.pairwise_append]
    refine ⟨h.sorted, by simp, fun a ha b hb => ?_⟩
    rw [List.mem_singleton.1 hb]
    have := h.low a ha
    omega
  · rcases List.mem_append.1 hx' with hx' | hx'
    · have := h.low x hx'
      omega
    · rw [List.mem_singleton.1 hx']; exact Int.le_refl _
  · rcases List.mem_append.1 hx with hx | hx
    · exact h.new x hx
    · rw [List.mem_singleton.1 hx]
      cases hp : look pre q.1 with
      | none => rfl
      | some y => exact absurd rfl (look_no hl (q.1, y) (List.mem_append.2 (.inl (look_mem hp))))

theorem look_of {M : List (Int × InR)} {q : Int × InR} (hq : q ∈ M) (hu : ∀ q' ∈ M, q'.1 = q.1 → q' = q) : look M q.1 = some q.2 := by
  cases h : look M q.1 with
  | none => exact absurd rfl (look_no h q hq)
  | some x => rw [← hu (q.1, x) (look_mem h) rfl]

/-- All numbers from 0 on are there: it is an input. -/
theorem fill_in {R0 R1 : List Lg.Rec} {A B : List (Int × InR)} {l0 l1 : Int} {rs : List InR} (hA : Fill 0 R0 [] A l0) (hB : Fill 1 R1 A B l1) (hl : rs.length = A.length + B.length) (hall : ∀ (i : Nat) x, rs[i]? = some x → look (A ++ B) (i : Int) = some x) : IsIn R0 R1 rs := by
  have hu : ∀ q ∈ A ++ B, ∀ q' ∈ A ++ B, q'.1 = q.1 → q' = q := fun q hq q' hq' e => by
    have hs : ∀ (l : List (Int × InR)), l.Pairwise (fun a b => a.1 < b.1) → ∀ q ∈ l, ∀ q' ∈ l, q'.1 = q.1 → q' = q := fun l hp q hq q' hq' e => by
      obtain ⟨i, hi, rfl⟩ := List.mem_iff_getElem.1 hq
      obtain ⟨j, hj, rfl⟩ := List.mem_iff_getElem.1 hq'
      rw [List.pairwise_iff_getElem] at hp
      rcases Nat.lt_trichotomy i j with h | h | h
      · have := hp i j hi hj h; omega
      · subst h; rfl
      · have := hp j i hj hi h; omega
    rcases List.mem_append.1 hq with hq | hq <;> rcases List.mem_append.1 hq' with hq' | hq'
    · exact hs A hA.sorted q hq q' hq' e
    · exact absurd e.symm (look_no (hB.new q' hq') q hq)
    · exact absurd e (look_no (hB.new q hq) q' hq')
    · exact hs B hB.sorted q hq q' hq' e
  have hnd : ((List.range rs.length).map (fun i : Nat => (i : Int))).Nodup := by
    unfold List.Nodup
    rw [List.pairwise_map]
    refine List.Pairwise.imp ?_ List.nodup_range
    intro a b h e
    omega
  have hin : ∀ q ∈ A ++ B, ∃ (i : Nat) (x : InR), rs[i]? = some x ∧ q = ((i : Int), x) := fun q hq => by
    have h1 := sub_back ((List.range rs.length).map (fun i : Nat => (i : Int))) ((A ++ B).map (·.1)) hnd (fun y hy => by
      obtain ⟨i, hi, rfl⟩ := List.mem_map.1 hy
      have hi := List.mem_range.1 hi
      have := look_mem (hall i rs[i] (by simp))
      exact List.mem_map.2 ⟨_, this, rfl⟩) (by simp [hl]) q.1 (List.mem_map.2 ⟨q, hq, rfl⟩)
    obtain ⟨i, hi, he⟩ := List.mem_map.1 h1
    have hi := List.mem_range.1 hi
    have h2 := hall i rs[i] (by simp)
    have he : (i : Int) = q.1 := he
    refine ⟨i, rs[i], by simp, ?_⟩
    exact (hu q hq _ (look_mem h2) he).symm
  have hpart : ∀ x ∈ rs, (x.part = 0 ∨ x.part = 1) ∧ Cl.In64 x.key ∧ Cl.In64 x.val := fun x hx => by
    obtain ⟨i, hi⟩ := List.mem_iff_getElem?.1 hx
    rcases List.mem_append.1 (look_mem (hall i x hi)) with h | h
    · exact ⟨.inl (hA.ok _ h).1, (hA.ok _ h).2.2⟩
    · exact ⟨.inr (hB.ok _ h).1, (hB.ok _ h).2.2⟩
  have hsk : ∀ (p : Int), (keyed' (pairsI p rs)).Pairwise (fun a b => a.1 < b.1) := fun p => by
    unfold keyed'
    rw [List.pairwise_map]
    refine List.Pairwise.imp ?_ (pairsN_sorted p rs 0)
    intro a b h
    simp only
    omega
  have hmk : ∀ (p : Int) q, q ∈ keyed' (pairsI p rs) → q ∈ A ++ B ∧ q.2.part = p := fun p q hq => by
    obtain ⟨q', hq', rfl⟩ := List.mem_map.1 hq
    obtain ⟨h1, h2, h3, h4⟩ := pairsN_mem p rs 0 q' hq'
    exact ⟨look_mem (hall q'.1 q'.2 (by simpa using h4)), h1⟩
  have hkm : ∀ (p : Int) q, q ∈ A ++ B → q.2.part = p → q ∈ keyed' (pairsI p rs) := fun p q hq hp => by
    obtain ⟨i, x, hi, rfl⟩ := hin q hq
    have := pairsN_at p rs 0 i x hi hp
    rw [Nat.zero_add] at this
    exact List.mem_map.2 ⟨_, this, rfl⟩
  have eA : A = keyed' (pairsI 0 rs) := sorted_same (·.1) _ _ hA.sorted (hsk 0) (fun q => ⟨fun hq => hkm 0 q (List.mem_append.2 (.inl hq)) (hA.ok q hq).1, fun hq => by
    obtain ⟨h1, h2⟩ := hmk 0 q hq
    rcases List.mem_append.1 h1 with h | h
    · exact h
    · have := (hB.ok q h).1
      omega⟩)
  have eB : B = keyed' (pairsI 1 rs) := sorted_same (·.1) _ _ hB.sorted (hsk 1) (fun q => ⟨fun hq => hkm 1 q (List.mem_append.2 (.inr hq)) (hB.ok q hq).1, fun hq => by
    obtain ⟨h1, h2⟩ := hmk 1 q hq
    rcases List.mem_append.1 h1 with h | h
    · have := (hA.ok q h).1
      omega
    · exact h⟩)
  exact ⟨fun x hx => (hpart x hx).1, fun x hx => (hpart x hx).2, by rw [hA.rows, ents_rows, ← eA], by rw [hB.rows, ents_rows, ← eB]⟩

/-- A number that is not above those ahead, or is there: no input. -/
theorem IsIn.above0 {R0 R1 : List Lg.Rec} {rs : List InR} (h : IsIn R0 R1 rs) (hl : R0.length + R1.length ≤ 100000000) {j : Nat} {A : List (Int × InR)} {lx : Int} (hA : Fill 0 (R0.take j) [] A lx) {q : Int × InR} (hq : q.2.part = 0 ∧ Cl.In64 q.1 ∧ Cl.In64 q.2.key ∧ Cl.In64 q.2.val) (he : R0[j]? = some (recI q)) : lx < q.1 ∧ look A q.1 = none := by
  have h1 := h.take0 hl hA.ok hA.rows
  have h2 := h.at0 hl hq he
  unfold keyed' at h1 h2
  rw [List.getElem?_map, Option.map_eq_some_iff] at h2
  obtain ⟨q', h2, rfl⟩ := h2
  rw [← List.map_take] at h1
  refine ⟨?_, by rw [h1]; exact look_new0 rs j q' h2⟩
  rcases hA.last with e | ⟨y, hy, rfl⟩
  · simp only; omega
  · rw [h1] at hy
    obtain ⟨y', hy', rfl⟩ := List.mem_map.1 hy
    obtain ⟨i, hi⟩ := List.mem_iff_getElem?.1 hy'
    rw [List.getElem?_take] at hi
    split at hi
    · rename_i hij
      have := pairs_less 0 rs hi h2 hij
      simp only
      omega
    · cases hi
theorem IsIn.above1 {R0 R1 : List Lg.Rec} {rs : List InR} (h : IsIn R0 R1 rs) (hl : R0.length + R1.length ≤ 100000000) {j : Nat} {A B : List (Int × InR)} {l0 lx : Int} (hA : Fill 0 R0 [] A l0) (hB : Fill 1 (R1.take j) A B lx) {q : Int × InR} (hq : q.2.part = 1 ∧ Cl.In64 q.1 ∧ Cl.In64 q.2.key ∧ Cl.In64 q.2.val) (he : R1[j]? = some (recI q)) : lx < q.1 ∧ look (A ++ B) q.1 = none := by
  have h0 := h.take0 hl (j := R0.length) hA.ok (by rw [List.take_length]; exact hA.rows)
  have h1 := h.take1 hl hB.ok hB.rows
  have h2 := h.at1 hl hq he
  rw [List.take_of_length_le (by unfold keyed'; rw [List.length_map, h.r0, ents_len]; exact Nat.le_refl _)] at h0
  unfold keyed' at h0 h1 h2
  rw [List.getElem?_map, Option.map_eq_some_iff] at h2
  obtain ⟨q', h2, rfl⟩ := h2
  rw [← List.map_take] at h1
  refine ⟨?_, ?_⟩
  · rcases hB.last with e | ⟨y, hy, rfl⟩
    · simp only; omega
    · rw [h1] at hy
      obtain ⟨y', hy', rfl⟩ := List.mem_map.1 hy
      obtain ⟨i, hi⟩ := List.mem_iff_getElem?.1 hy'
      rw [List.getElem?_take] at hi
      split at hi
      · rename_i hij
        have := pairs_less 1 rs hi h2 hij
        simp only
        omega
      · cases hi
  · have := look_new1 rs j q' h2
    unfold keyed' at this
    rw [List.map_append] at this
    rw [h0, h1]
    exact this
/-- A number that is not there, or too many: no input. -/
theorem IsIn.all {R0 R1 : List Lg.Rec} {rs : List InR} (h : IsIn R0 R1 rs) (hl : R0.length + R1.length ≤ 100000000) {A B : List (Int × InR)} {l0 l1 : Int} (hA : Fill 0 R0 [] A l0) (hB : Fill 1 R1 A B l1) : rs.length = A.length + B.length ∧ ∀ (i : Nat) x, rs[i]? = some x → look (A ++ B) (i : Int) = some x := by
  have h0 := h.take0 hl (j := R0.length) hA.ok (by rw [List.take_length]; exact hA.rows)
  have h1 := h.take1 hl (j := R1.length) hB.ok (by rw [List.take_length]; exact hB.rows)
  rw [List.take_of_length_le (by unfold keyed'; rw [List.length_map, h.r0, ents_len]; exact Nat.le_refl _)] at h0
  rw [List.take_of_length_le (by unfold keyed'; rw [List.length_map, h.r1, ents_len]; exact Nat.le_refl _)] at h1
  refine ⟨?_, fun i x hi => ?_⟩
  · rw [h.len, hA.rows, hB.rows]
    simp [rowsR]
  · have := look_all rs h.p i x hi
    unfold keyed' at this h0 h1
    rw [List.map_append, ← h0, ← h1] at this
    exact this

/-! What the reference's Open goes through. -/

/-- Rows that were merged so far. -/
structure Merged (A B : List (Int × InR)) (a b : Nat) (rs : List InR) : Prop where
  p : ∀ x ∈ rs, x.part = 0 ∨ x.part = 1
  ta : A.take a = keyed' (pairsI 0 rs)
  tb : B.take b = keyed' (pairsI 1 rs)
  la : a ≤ A.length
  lb : b ≤ B.length
theorem Merged.start (A B : List (Int × InR)) : Merged A B 0 0 [] := ⟨fun x h => (by cases h), rfl, rfl, Nat.zero_le _, Nat.zero_le _⟩
theorem pairsI_snoc (p : Int) (rs : List InR) (x : InR) : pairsI p (rs ++ [x]) = pairsI p rs ++ (if x.part = p then [(rs.length, x)] else []) := by
  unfold pairsI
  rw [pairsN_snoc, Nat.zero_add]
theorem Merged.next0 {A B : List (Int × InR)} {a b : Nat} {rs : List InR} (h : Merged A B a b rs) {x : InR} (hx : A[a]? = some ((rs.length : Int), x)) (hp : x.part = 0) : Merged A B (a + 1) b (rs ++ [x]) := by
  have hlt := (List.getElem?_eq_some_iff.1 hx).1
  refine ⟨fun y hy => ?_, ?_, ?_, by omega, h.lb⟩
  · rcases List.mem_append.1 hy with hy | hy
    · exact h.p y hy
    · rw [List.mem_singleton.1 hy]; exact .inl hp
  · rw [List.take_add_one, hx, h.ta, pairsI_snoc, if_pos hp]
    simp [keyed']
  · rw [h.tb, pairsI_snoc, if_neg (by rw [hp]; decide), List.append_nil]
theorem Merged.next1 {A B : List (Int × InR)} {a b : Nat} {rs : List InR} (h : Merged A B a b rs) {x : InR} (hx : B[b]? = some ((rs.length : Int), x)) (hp : x.part = 1) : Merged A B a (b + 1) (rs ++ [x]) := by
  have hlt := (List.getElem?_eq_some_iff.1 hx).1
  refine ⟨fun y hy => ?_, ?_, ?_, h.la, by omega⟩
  · rcases List.mem_append.1 hy with hy | hy
    · exact h.p y hy
    · rw [List.mem_singleton.1 hy]; exact .inr hp
  · rw [h.ta, pairsI_snoc, if_neg (by rw [hp]; decide), List.append_nil]
  · rw [List.take_add_one, hx, h.tb, pairsI_snoc, if_pos hp]
    simp [keyed']
theorem Merged.len {A B : List (Int × InR)} {a b : Nat} {rs : List InR} (h : Merged A B a b rs) : rs.length = a + b := by
  have h1 := congrArg List.length h.ta
  have h2 := congrArg List.length h.tb
  have h3 := pairsN_len rs h.p 0
  have := h.la
  have := h.lb
  unfold keyed' pairsI at h1 h2
  simp only [List.length_take, List.length_map] at h1 h2
  omega
theorem Merged.done {A B : List (Int × InR)} {R0 R1 : List Lg.Rec} {rs : List InR} (hA : RowsOk 0 A) (hB : RowsOk 1 B) (h0 : R0 = rowsR A) (h1 : R1 = rowsR B) (h : Merged A B A.length B.length rs) : IsIn R0 R1 rs := by
  have ea := h.ta
  have eb := h.tb
  rw [List.take_length] at ea eb
  refine ⟨h.p, fun x hx => ?_, by rw [h0, ents_rows, ← ea], by rw [h1, ents_rows, ← eb]⟩
  obtain ⟨i, hi⟩ := List.mem_iff_getElem?.1 hx
  rcases h.p x hx with e | e
  · have := pairsN_at 0 rs 0 i x hi e
    exact (hA _ (by rw [ea]; exact List.mem_map.2 ⟨_, this, rfl⟩)).2.2
  · have := pairsN_at 1 rs 0 i x hi e
    exact (hB _ (by rw [eb]; exact List.mem_map.2 ⟨_, this, rfl⟩)).2.2
/-- No row goes on: no input. -/
theorem Merged.stuck {A B : List (Int × InR)} {R0 R1 : List Lg.Rec} {a b : Nat} {rs rs' : List InR} (hl : R0.length + R1.length ≤ 100000000) (hA : RowsOk 0 A) (hB : RowsOk 1 B) (h0 : R0 = rowsR A) (h1 : R1 = rowsR B) (h : Merged A B a b rs) (hi : IsIn R0 R1 rs') :
    (∃ x, rs' = rs ++ [x] ++ rs'.drop (rs.length + 1) ∧ ((x.part = 0 ∧ A[a]? = some ((rs.length : Int), x)) ∨ (x.part = 1 ∧ B[b]? = some ((rs.length : Int), x)))) ∨ (a = A.length ∧ b = B.length ∧ rs = rs') := by
  have ea := hi.take0 hl (j := R0.length) hA (by rw [List.take_length]; exact h0)
  have eb := hi.take1 hl (j := R1.length) hB (by rw [List.take_length]; exact h1)
  rw [List.take_of_length_le (by unfold keyed'; rw [List.length_map, hi.r0, ents_len]; exact Nat.le_refl _)] at ea
  rw [List.take_of_length_le (by unfold keyed'; rw [List.length_map, hi.r1, ents_len]; exact Nat.le_refl _)] at eb
  have hlen := h.len
  have hlen' := hi.len
  have hRA : R0.length = A.length := by rw [h0]; simp [rowsR]
  have hRB : R1.length = B.length := by rw [h1]; simp [rowsR]
  have hla := h.la
  have hlb := h.lb
  have hpre : ∀ (i : Nat) (x : InR), rs[i]? = some x → rs'[i]? = some x := fun i x hx => by
    have hm : ∀ (p : Int) (X : List (Int × InR)) (m : Nat), X.take m = keyed' (pairsI p rs) → X = keyed' (pairsI p rs') → x.part = p → rs'[i]? = some x := fun p X m h1 h2 hp => by
      have h3 := pairsN_at p rs 0 i x hx hp
      rw [Nat.zero_add] at h3
      have h4 : ((i : Int), x) ∈ keyed' (pairsI p rs) := List.mem_map.2 ⟨_, h3, rfl⟩
      rw [← h1] at h4
      have h5 := List.mem_of_mem_take h4
      rw [h2] at h5
      obtain ⟨q, hq, he⟩ := List.mem_map.1 h5
      obtain ⟨h6, h7, h8, h9⟩ := pairsN_mem p rs' 0 q hq
      simp only [Prod.mk.injEq] at he
      obtain ⟨e1, e2⟩ := he
      rw [e2, Nat.sub_zero, show q.1 = i by omega] at h9
      exact h9
    rcases h.p x (List.mem_of_getElem? hx) with e | e
    · exact hm 0 A a h.ta ea e
    · exact hm 1 B b h.tb eb e
  have htake : rs = rs'.take rs.length := by
    refine List.ext_getElem? (fun i => ?_)
    rw [List.getElem?_take]
    split
    · rename_i hlt
      rw [hpre i rs[i] (by simp)]
      simp
    · rename_i hge
      exact List.getElem?_eq_none (by omega)
  by_cases hend : rs.length = rs'.length
  · right
    refine ⟨by omega, by omega, ?_⟩
    rw [htake, hend, List.take_length]
  · left
    have hlt : rs.length < rs'.length := by omega
    obtain ⟨y, hy⟩ : ∃ y, rs'[rs.length]? = some y := ⟨rs'[rs.length], by simp⟩
    have hsp : rs' = rs ++ [y] ++ rs'.drop (rs.length + 1) := by
      conv => lhs; rw [← List.take_append_drop (rs.length + 1) rs', List.take_add_one, hy, ← htake]
      simp
    refine ⟨y, hsp, ?_⟩
    have hat : ∀ (p : Int) (X : List (Int × InR)) (m : Nat), X.take m = keyed' (pairsI p rs) → X = keyed' (pairsI p rs') → m ≤ X.length → y.part = p → X[m]? = some ((rs.length : Int), y) := fun p X m h1 h2 h3 hp => by
      have hm : m = (keyed' (pairsI p rs)).length := by rw [← h1, List.length_take]; omega
      rw [h2, hsp]
      unfold keyed' pairsI at hm ⊢
      have happ : ∀ (l1 l2 : List InR) (n : Nat), pairsN p n (l1 ++ l2) = pairsN p n l1 ++ pairsN p (n + l1.length) l2 := by
        intro l1
        induction l1 with
        | nil => intro l2 n; simp [pairsN]
        | cons z l1 ih =>
          intro l2 n
          show (if z.part = p then (n, z) :: pairsN p (n + 1) (l1 ++ l2) else pairsN p (n + 1) (l1 ++ l2)) = (if z.part = p then (n, z) :: pairsN p (n + 1) l1 else pairsN p (n + 1) l1) ++ _
          rw [ih, List.length_cons, show n + 1 + l1.length = n + (l1.length + 1) by omega]
          split <;> simp
      rw [List.append_assoc, happ, List.map_append, List.getElem?_append_right (by omega), hm, Nat.sub_self]
      simp [pairsN, hp]
    rcases hi.p y (List.mem_of_getElem? hy) with e | e
    · exact .inl ⟨e, hat 0 A a h.ta ea hla e⟩
    · exact .inr ⟨e, hat 1 B b h.tb eb hlb e⟩

end Go.Proofs.Ytllecjhfbojgcaa
