/-
  The output, plainly: what is on the disk as it is told and marked.
-/
import Derived.Test.YtllecjhfbojgcaaOutWorks
namespace Go.Proofs.Ytllecjhfbojgcaa
open Go.RowKit
set_option maxRecDepth 20000

def wtO (rs : List ORec) : Nat := (rs.map fun r => 25 + 20 * r.l.length).sum
theorem wtO_snoc (rs : List ORec) (r : ORec) : wtO (rs ++ [r]) = wtO rs + (25 + 20 * r.l.length) := by simp [wtO]
theorem frame_wt (r : ORec) : (Lg.frameB (entO r)).length ≤ 25 + 20 * r.l.length := by
  have h1 := entO_size r
  have h2 := Lg.frame_le (entO r)
  omega
theorem bytes_wt (rs : List ORec) : (Lg.bytesOf (rs.map entO)).length ≤ wtO rs := by
  induction rs with
  | nil => exact Nat.zero_le _
  | cons r rs ih =>
    have := frame_wt r
    have e : Lg.bytesOf ((r :: rs).map entO) = Lg.frameB (entO r) ++ Lg.bytesOf (rs.map entO) := by simp [Lg.bytesOf]
    have e2 : wtO (r :: rs) = (25 + 20 * r.l.length) + wtO rs := by simp [wtO]
    rw [e, List.length_append, e2]
    omega
theorem wtO_len (rs : List ORec) (h : ∀ r ∈ rs, OGood r) : wtO rs ≤ rs.length * 20025 := by
  induction rs with
  | nil => exact Nat.zero_le _
  | cons r rs ih =>
    have h1 := ih (fun x hx => h x (List.mem_cons_of_mem _ hx))
    have h2 := (h r (by simp)).len
    have e2 : wtO (r :: rs) = (25 + 20 * r.l.length) + wtO rs := by simp [wtO]
    rw [e2, List.length_cons, Nat.add_mul]
    omega

theorem OValid.nil : OValid [] := ⟨fun r hr => (by cases hr), fun k r hr => (by simp at hr), Nat.zero_le _⟩
theorem OValid.snoc {rs : List ORec} (h : OValid rs) (r : ORec) (hg : OGood r) (h1 : 1 ≤ r.n) (h2 : r.kind = 2 → r.l = []) (ht : takesO rs r = true) (hl : rs.length < 100000000) : OValid (rs ++ [r]) := by
  refine ⟨fun x hx => ?_, fun k x hx => ?_, by rw [List.length_append, List.length_singleton]; omega⟩
  · rcases List.mem_append.1 hx with hx | hx
    · exact h.good x hx
    · rw [List.mem_singleton.1 hx]; exact ⟨hg, h1, h2⟩
  · by_cases hk : k < rs.length
    · rw [List.getElem?_append_left hk] at hx
      rw [List.take_append_of_le_length (by omega)]
      exact h.takes k x hx
    · have hk2 : k = rs.length := by
        have := (List.getElem?_eq_some_iff.1 hx).1
        simp at this
        omega
      subst hk2
      rw [List.getElem?_append_right (Nat.le_refl _), Nat.sub_self] at hx
      simp only [List.getElem?_cons_zero, Option.some.injEq] at hx
      subst hx
      rw [List.take_append_of_le_length (Nat.le_refl _), List.take_length]
      exact ht
theorem OValid.take {rs : List ORec} (h : OValid rs) (k : Nat) : OValid (rs.take k) := by
  refine ⟨fun x hx => h.good x (List.mem_of_mem_take hx), fun i x hx => ?_, Nat.le_trans (List.length_take_le' ..) h.len⟩
  rw [List.getElem?_take] at hx
  split at hx
  · rename_i hik
    rw [List.take_take, Nat.min_eq_left (by omega)]
    exact h.takes i x hx
  · cases hx
theorem lastO_le {rs : List ORec} {k : UInt8} {M : Int} (h0 : 0 ≤ M) (h : ∀ r ∈ rs, r.n ≤ M) : lastO rs k ≤ M := by
  have : ∀ (l : List ORec) (n : Int), n ≤ M → (∀ r ∈ l, r.n ≤ M) → l.foldl (fun n r => if r.kind = k then r.n else n) n ≤ M := by
    intro l
    induction l with
    | nil => intro n hn _; exact hn
    | cons r l ih =>
      intro n hn hl
      rw [List.foldl_cons]
      refine ih _ ?_ (fun x hx => hl x (List.mem_cons_of_mem _ hx))
      split
      · exact hl r (by simp)
      · exact hn
  exact this rs 0 h0 h
theorem lastO_ge {rs : List ORec} {k : UInt8} (h : ∀ r ∈ rs, 1 ≤ r.n) : 0 ≤ lastO rs k := by
  have : ∀ (l : List ORec) (n : Int), 0 ≤ n → (∀ r ∈ l, 1 ≤ r.n) → 0 ≤ l.foldl (fun n r => if r.kind = k then r.n else n) n := by
    intro l
    induction l with
    | nil => intro n hn _; exact hn
    | cons r l ih =>
      intro n hn hl
      rw [List.foldl_cons]
      refine ih _ ?_ (fun x hx => hl x (List.mem_cons_of_mem _ hx))
      split
      · have := hl r (by simp); omega
      · exact hn
  exact this rs 0 (Int.le_refl _) h
theorem countsO_all {rs : List ORec} (h : ∀ r ∈ rs, r.n ≤ lastO rs 2) : countsO rs = rs.flatMap (·.l) := by
  unfold countsO
  rw [List.filter_eq_self.2 (fun r hr => by simpa using h r hr)]

structure OTwo (S : OSt) (s : Bool → List Lg.Rec) (l : List (Bool × Lg.Rec)) : Prop where
  two : Lg.Two fO S.D s l
  rs : ∀ p, (S.L p).rs = s p ++ Lg.pick p l
  su : ∀ p, (S.L p).sure ≤ (s p).length
  link : ∀ p, (S.L p).rs = (S.r p).map entO
  valid : ∀ p, OValid (S.r p)

theorem pick_len (l : List (Bool × Lg.Rec)) : l.length = (Lg.pick false l).length + (Lg.pick true l).length := by
  induction l with
  | nil => rfl
  | cons q l ih =>
    obtain ⟨q, r⟩ := q
    rw [show (q, r) :: l = [(q, r)] ++ l from rfl, Lg.pick_app, Lg.pick_app, List.length_append, List.length_append, List.length_append, ih]
    cases q
    · rw [Lg.pick_same, Lg.pick_other (by decide)]; simp; omega
    · rw [Lg.pick_same, Lg.pick_other (by decide)]; simp; omega
theorem OTwo.lens {S : OSt} {s : Bool → List Lg.Rec} {l : List (Bool × Lg.Rec)} (h : OTwo S s l) (p : Bool) : (s p).length + (Lg.pick p l).length = (S.r p).length := by
  have h1 := congrArg List.length (h.rs p)
  have h2 := congrArg List.length (h.link p)
  rw [List.length_append] at h1
  rw [List.length_map] at h2
  omega
theorem OTwo.fit {S : OSt} {s : Bool → List Lg.Rec} {l : List (Bool × Lg.Rec)} (h : OTwo S s l) {j : Nat} (hj : (S.r false).length + (S.r true).length ≤ j) : OFit j S := by
  have hc : outC = 20100 := by unfold outC; rfl
  have h1 := h.lens false
  have h2 := h.lens true
  have hp := pick_len l
  have hr : ∀ p, (S.r p).length ≤ j := fun p => by cases p <;> omega
  refine ⟨?_, fun p => ?_, hr⟩
  · rw [h.two.loose, List.length_map]; omega
  · rw [h.link p]
    have h3 := bytes_wt (S.r p)
    have h4 := wtO_len (S.r p) (fun r hr => ((h.valid p).good r hr).1)
    have h5 : (S.r p).length * 20025 ≤ j * 20025 := Nat.mul_le_mul_right _ (hr p)
    have h6 : j * 20025 ≤ j * outC := Nat.mul_le_mul_left _ (by omega)
    omega
theorem OTwo.total {S : OSt} {s : Bool → List Lg.Rec} {l : List (Bool × Lg.Rec)} (h : OTwo S s l) : Dk.total S.D.now ≤ wtO (S.r false) + wtO (S.r true) := by
  have h1 := h.two.total
  rw [← h.rs false, ← h.rs true, h.link false, h.link true] at h1
  have := bytes_wt (S.r false)
  have := bytes_wt (S.r true)
  omega

theorem OTwo.put {S : OSt} {s : Bool → List Lg.Rec} {l : List (Bool × Lg.Rec)} (h : OTwo S s l) (p : Bool) (r : ORec) (hg : OGood r) (h1 : 1 ≤ r.n) (h2 : r.kind = 2 → r.l = []) (ht : takesO (S.r p) r = true) (hl : (S.r p).length < 100000000) (hroom : wtO (S.r false) + wtO (S.r true) + (25 + 20 * r.l.length) ≤ 4194304) :
    ((S.put p r).1 = 50 ∧ ¬ Lg.Free S.D ∧ (S.put p r).2.r = S.r ∧ OTwo (S.put p r).2 s l) ∨
    ((S.put p r).1 = 0 ∧ (S.put p r).2.r = upd S.r p (S.r p ++ [r]) ∧ OTwo (S.put p r).2 s (l ++ [(p, entO r)]) ∧ (Lg.Free S.D → Lg.Free (S.put p r).2.D)) := by
  have htot := h.total
  have hfr := frame_wt r
  have hp := h.two.put p (S.L p) (entO r) hg.ent (by omega)
  have hput : S.put p r = if (S.lput p (entO r)).1 = 0 then (0, (S.lput p (entO r)).2.row p r) else S.lput p (entO r) := rfl
  rcases hp with ⟨q1, q2, q3, q4⟩ | ⟨q1, q2, q3, q4⟩
  · have e1 : (S.lput p (entO r)).1 = 50 := q1
    rw [hput, if_neg (by rw [e1]; decide)]
    have hL : (S.lput p (entO r)).2.L = S.L := by
      show upd S.L p (Lg.put S.D (fO p) (S.L p) (entO r)).2.2 = S.L
      rw [q3]
      funext q
      by_cases hq : q = p
      · rw [hq, upd_same]
      · rw [upd_ne _ _ hq]
    refine .inl ⟨e1, fun hF => ?_, rfl, q4, fun q => by rw [hL]; exact h.rs q, fun q => by rw [hL]; exact h.su q, fun q => by rw [hL]; exact h.link q, h.valid⟩
    rcases q2 with e | e
    · rw [hF.off] at e; cases e
    · rw [hF.left] at e; cases e
  · have e1 : (S.lput p (entO r)).1 = 0 := q1
    rw [hput, if_pos e1]
    have hL : ((S.lput p (entO r)).2.row p r).L = upd S.L p { S.L p with rs := (S.L p).rs ++ [entO r] } := by
      show upd S.L p (Lg.put S.D (fO p) (S.L p) (entO r)).2.2 = _
      rw [q2]
    have hr : ((S.lput p (entO r)).2.row p r).r = upd S.r p (S.r p ++ [r]) := rfl
    refine .inr ⟨rfl, rfl, ⟨q3, fun q => ?_, fun q => ?_, fun q => ?_, fun q => ?_⟩, q4⟩
    · rw [hL]
      by_cases hq : q = p
      · subst hq
        rw [upd_same, Lg.pick_app, Lg.pick_same, ← List.append_assoc, ← h.rs q]
      · rw [upd_ne _ _ hq, Lg.pick_app, Lg.pick_other (Ne.symm hq), List.append_nil]
        exact h.rs q
    · rw [hL]
      by_cases hq : q = p
      · subst hq
        rw [upd_same]
        exact h.su q
      · rw [upd_ne _ _ hq]
        exact h.su q
    · rw [hL, hr]
      by_cases hq : q = p
      · subst hq
        rw [upd_same, upd_same, List.map_append]
        show (S.L q).rs ++ [entO r] = _
        rw [h.link q]
        rfl
      · rw [upd_ne _ _ hq, upd_ne _ _ hq]
        exact h.link q
    · rw [hr]
      by_cases hq : q = p
      · subst hq
        rw [upd_same]
        exact (h.valid q).snoc r hg h1 h2 ht hl
      · rw [upd_ne _ _ hq]
        exact h.valid q

/-- All records of both files. -/
def allS (s : Bool → List Lg.Rec) (l : List (Bool × Lg.Rec)) : Bool → List Lg.Rec := fun p => s p ++ Lg.pick p l
theorem OTwo.lsync {S : OSt} {s : Bool → List Lg.Rec} {l : List (Bool × Lg.Rec)} (h : OTwo S s l) (p : Bool) :
    ((S.lsync p).1 = 50 ∧ ¬ Lg.Free S.D ∧ (S.lsync p).2.r = S.r ∧ OTwo (S.lsync p).2 s l) ∨
    ((S.lsync p).1 = 0 ∧ (S.lsync p).2.r = S.r ∧ (Lg.pick p l = [] ∧ OTwo (S.lsync p).2 s l ∨ OTwo (S.lsync p).2 (allS s l) []) ∧ (Lg.Free S.D → Lg.Free (S.lsync p).2.D)) := by
  have hq := h.two.sync p (S.L p) (h.rs p) (h.su p)
  rcases hq with ⟨q1, q2, q3, q4⟩ | ⟨q1, q2, q3, q4⟩
  · have hL : (S.lsync p).2.L = S.L := by
      show upd S.L p (Lg.sync S.D (S.L p)).2.2 = S.L
      rw [q3]
      funext q
      by_cases hq : q = p
      · rw [hq, upd_same]
      · rw [upd_ne _ _ hq]
    refine .inl ⟨q1, fun hF => ?_, rfl, q4, fun q => by rw [hL]; exact h.rs q, fun q => by rw [hL]; exact h.su q, fun q => by rw [hL]; exact h.link q, h.valid⟩
    rcases q2 with e | e
    · rw [hF.off] at e; cases e
    · rw [hF.left] at e; cases e
  · have hL : (S.lsync p).2.L = upd S.L p ⟨(S.L p).rs, (S.L p).rs.length⟩ := by
      show upd S.L p (Lg.sync S.D (S.L p)).2.2 = _
      rw [q2]
    have hLrs : ∀ q, ((S.lsync p).2.L q).rs = (S.L q).rs := fun q => by
      rw [hL]
      by_cases hq : q = p
      · subst hq; rw [upd_same]
      · rw [upd_ne _ _ hq]
    have hlk : ∀ q, ((S.lsync p).2.L q).rs = ((S.lsync p).2.r q).map entO := fun q => by rw [hLrs]; exact h.link q
    refine .inr ⟨q1, rfl, ?_, q4⟩
    rcases q3 with ⟨q5, q6⟩ | q5
    · refine .inl ⟨q5, ?_, fun q => by rw [hLrs]; exact h.rs q, fun q => ?_, hlk, h.valid⟩
      · have e : (S.lsync p).2.D = S.D := q6
        rw [e]; exact h.two
      · rw [hL]
        by_cases hq : q = p
        · subst hq
          rw [upd_same]
          have := h.rs q
          rw [q5, List.append_nil] at this
          show (S.L q).rs.length ≤ _
          rw [this]
          exact Nat.le_refl _
        · rw [upd_ne _ _ hq]
          exact h.su q
    · refine .inr ⟨q5, fun q => by rw [hLrs, Lg.pick_nil, List.append_nil]; exact h.rs q, fun q => ?_, hlk, h.valid⟩
      rw [hL]
      unfold allS
      by_cases hq : q = p
      · subst hq
        rw [upd_same]
        show (S.L q).rs.length ≤ _
        rw [h.rs q]
        exact Nat.le_refl _
      · rw [upd_ne _ _ hq]
        have := h.su q
        rw [List.length_append]
        omega
theorem allS_nil (s : Bool → List Lg.Rec) : allS s [] = s := by
  funext p
  unfold allS
  rw [Lg.pick_nil, List.append_nil]
theorem picks_nil {l : List (Bool × Lg.Rec)} (h0 : Lg.pick false l = []) (h1 : Lg.pick true l = []) : l = [] := by
  have := pick_len l
  rw [h0, h1] at this
  exact List.eq_nil_of_length_eq_zero this
theorem OTwo.sync {S : OSt} {s : Bool → List Lg.Rec} {l : List (Bool × Lg.Rec)} (h : OTwo S s l) :
    (S.sync.1 = 0 ∧ S.sync.2.r = S.r ∧ OTwo S.sync.2 (allS s l) [] ∧ (Lg.Free S.D → Lg.Free S.sync.2.D)) ∨
    (S.sync.1 = 50 ∧ ¬ Lg.Free S.D ∧ S.sync.2.r = S.r ∧ (OTwo S.sync.2 s l ∨ OTwo S.sync.2 (allS s l) [])) := by
  have hs : S.sync = if (S.lsync false).1 ≠ 0 then S.lsync false else (S.lsync false).2.lsync true := rfl
  rcases h.lsync false with ⟨q1, q2, q3, q4⟩ | ⟨q1, q2, q3, q4⟩
  · rw [hs, if_pos (by rw [q1]; decide)]
    exact .inr ⟨q1, q2, q3, .inl q4⟩
  · rw [hs, if_neg (by rw [q1]; decide)]
    rcases q3 with ⟨q5, q6⟩ | q6
    · rcases q6.lsync true with ⟨r1, r2, r3, r4⟩ | ⟨r1, r2, r3, r4⟩
      · exact .inr ⟨r1, fun hF => r2 (q4 hF), r3.trans q2, .inl r4⟩
      · refine .inl ⟨r1, r2.trans q2, ?_, fun hF => r4 (q4 hF)⟩
        rcases r3 with ⟨r5, r6⟩ | r6
        · have hl := picks_nil q5 r5
          subst hl
          rw [allS_nil]
          exact r6
        · exact r6
    · rcases q6.lsync true with ⟨r1, r2, r3, r4⟩ | ⟨r1, r2, r3, r4⟩
      · exact .inr ⟨r1, fun hF => r2 (q4 hF), r3.trans q2, .inr r4⟩
      · refine .inl ⟨r1, r2.trans q2, ?_, fun hF => r4 (q4 hF)⟩
        rcases r3 with ⟨r5, r6⟩ | r6
        · exact r6
        · rw [allS_nil] at r6
          exact r6

end Go.Proofs.Ytllecjhfbojgcaa
