/-
  Plain facts on frames: no program in sight.
-/
import Derived.Test.YtllecjhfbojgcaaSumCore
import Derived.Test.YtllecjhfbojgcaaBytesPlain
namespace Cl

/-- A sum's bytes. -/
def tailB (n : Nat) : List UInt8 := [UInt8.ofNat (n % 256), UInt8.ofNat (n / 256 % 256), UInt8.ofNat (n / 65536 % 256), UInt8.ofNat (n / 16777216 % 256)]

theorem tailB_len (n : Nat) : (tailB n).length = 4 := rfl

theorem tailB_inj (a b : Nat) (ha : a < 4294967296) (hb : b < 4294967296) (h : tailB a = tailB b) : a = b := by
  unfold tailB at h
  simp only [List.cons.injEq, and_true] at h
  obtain ⟨h1, h2, h3, h4⟩ := h
  have f : ∀ x y : Nat, x < 256 → y < 256 → UInt8.ofNat x = UInt8.ofNat y → x = y := by
    intro x y hx hy e
    have := congrArg UInt8.toNat e
    rw [UInt8.toNat_ofNat', UInt8.toNat_ofNat'] at this
    omega
  have g1 := f _ _ (by omega) (by omega) h1
  have g2 := f _ _ (by omega) (by omega) h2
  have g3 := f _ _ (by omega) (by omega) h3
  have g4 := f _ _ (by omega) (by omega) h4
  omega

/-- A frame ahead of its sum. -/
def bodyF (k : UInt8) (p : List UInt8) : List UInt8 := k :: putText p
/-- A frame's bytes. -/
def putF (k : UInt8) (p : List UInt8) : List UInt8 := bodyF k p ++ tailB (adler (bodyF k p))

theorem putText_len (p : List UInt8) : p.length + 1 ≤ (putText p).length ∧ (putText p).length ≤ p.length + 10 := by
  unfold putText
  rw [List.length_append]
  have := vint_len (zig p.length)
  omega

theorem putF_len (k : UInt8) (p : List UInt8) : (putF k p).length = (putText p).length + 5 := by
  unfold putF bodyF
  rw [List.length_append, tailB_len, List.length_cons]

/-- What Take answers: the kind, the payload, how many bytes, the error. -/
def takeF (s : List UInt8) : Nat × List UInt8 × Nat × Int :=
  match s with
  | [] => (0, [], 0, 20)
  | c :: r =>
    if c.toNat = 0 then (0, [], 0, 21)
    else if (takeText r).2.2 ≠ 0 then (0, [], 0, (takeText r).2.2)
    else if (c :: r).length < (takeText r).2.1 + 1 + 4 then (0, [], 0, 20)
    else if ((c :: r).drop ((takeText r).2.1 + 1)).take 4 ≠ tailB (adler ((c :: r).take ((takeText r).2.1 + 1))) then (0, [], 0, 40)
    else (c.toNat, (takeText r).1, (takeText r).2.1 + 1 + 4, 0)

theorem takeF_put (k : UInt8) (p r : List UInt8) (hk : k.toNat ≠ 0) (hp : p.length ≤ 65536) : takeF (putF k p ++ r) = (k.toNat, p, (putF k p).length, 0) := by
  have e : putF k p ++ r = k :: (putText p ++ (tailB (adler (bodyF k p)) ++ r)) := by
    unfold putF bodyF
    rw [List.append_assoc, List.cons_append]
  have ht := takeText_put p (tailB (adler (bodyF k p)) ++ r) hp
  rw [e]
  unfold takeF
  simp only
  rw [ht, if_neg hk]
  simp only [ne_eq, not_true_eq_false, if_false]
  have e2 : (k :: (putText p ++ (tailB (adler (bodyF k p)) ++ r))).take ((putText p).length + 1) = bodyF k p := by
    rw [List.take_succ_cons, List.take_left]; rfl
  have e3 : ((k :: (putText p ++ (tailB (adler (bodyF k p)) ++ r))).drop ((putText p).length + 1)).take 4 = tailB (adler (bodyF k p)) := by
    rw [List.drop_succ_cons, List.drop_left]
    exact List.take_left' (tailB_len _)
  rw [e2, e3, if_neg, if_neg]
  · rw [putF_len]
  · exact fun h => h rfl
  · simp only [List.length_cons, List.length_append, tailB_len]; omega

theorem takeF_ok (s : List UInt8) (k : Nat) (t : List UInt8) (n : Nat) (h : takeF s = (k, t, n, 0)) :
    ∃ c : UInt8, k = c.toNat ∧ c.toNat ≠ 0 ∧ n ≤ s.length ∧ s.take n = putF c t ∧ t.length ≤ 65536 ∧ 6 ≤ n := by
  unfold takeF at h
  split at h
  · simp at h
  rename_i c r
  split at h
  · simp at h
  split at h
  · rename_i h1 h2; simp at h; exact absurd h.2.2.2 h2
  split at h
  · simp at h
  split at h
  · simp at h
  rename_i h1 h2 h3 h4
  simp only [Prod.mk.injEq, and_true] at h
  obtain ⟨rfl, rfl, rfl⟩ := h
  have h2' : (takeText r).2.2 = 0 := Decidable.not_not.1 h2
  obtain ⟨g1, g2, g3, g4⟩ := takeText_ok r (takeText r).1 (takeText r).2.1 (by rw [← h2'])
  have h4' := Decidable.not_not.1 h4
  have hb : (c :: r).take ((takeText r).2.1 + 1) = bodyF c (takeText r).1 := by
    rw [List.take_succ_cons, g2]; rfl
  refine ⟨c, rfl, h1, by omega, ?_, g3, by omega⟩
  rw [List.take_add, h4', hb]
  rfl

theorem takeF_bad (s : List UInt8) (h : (takeF s).2.2.2 ≠ 0) : (takeF s).1 = 0 ∧ (takeF s).2.1 = [] ∧ (takeF s).2.2.1 = 0 := by
  unfold takeF at h ⊢
  split
  · simp
  rename_i c r
  split
  · simp
  split
  · simp
  split
  · simp
  split
  · simp
  · rename_i h1 h2 h3 h4
    simp only at h
    rw [if_neg h1, if_neg h2, if_neg h3, if_neg h4] at h
    exact absurd rfl h

/-- No beginning of a frame's bytes is a frame, but all of them. -/
theorem takeF_short (k : UInt8) (p : List UInt8) (hk : k.toNat ≠ 0) (hp : p.length ≤ 65536) (i : Nat) (hi : i < (putF k p).length) : (takeF ((putF k p).take i)).2.2.2 ≠ 0 := by
  intro h
  obtain ⟨c, e1, e2, e3, e4, e5, e6⟩ := takeF_ok ((putF k p).take i) _ _ _ (show takeF ((putF k p).take i) = ((takeF ((putF k p).take i)).1, (takeF ((putF k p).take i)).2.1, (takeF ((putF k p).take i)).2.2.1, 0) from by rw [← h])
  generalize (takeF ((putF k p).take i)).2.2.1 = n at *
  generalize (takeF ((putF k p).take i)).2.1 = t at *
  rw [List.length_take] at e3
  rw [List.take_take, Nat.min_eq_left (by omega)] at e4
  have hsplit := List.take_append_drop n (putF k p)
  rw [e4] at hsplit
  have h1 := takeF_put c t ((putF k p).drop n) e2 e5
  have h2 := takeF_put k p [] hk hp
  rw [List.append_nil] at h2
  rw [hsplit, h2] at h1
  simp only [Prod.mk.injEq] at h1
  have hl := congrArg List.length e4
  rw [List.length_take] at hl
  omega

/-- A frame of which one byte is another one is none that long. -/
theorem takeF_spoilt (k : UInt8) (p : List UInt8) (i : Nat) (x : UInt8) (hi : i < (putF k p).length) (hx : (putF k p)[i] ≠ x) : (takeF ((putF k p).set i x)).2.2.2 ≠ 0 ∨ (takeF ((putF k p).set i x)).2.2.1 < (putF k p).length := by
  by_cases h : (takeF ((putF k p).set i x)).2.2.2 = 0
  · right
    obtain ⟨c, e1, e2, e3, e4, e5, e6⟩ := takeF_ok ((putF k p).set i x) _ _ _ (show takeF ((putF k p).set i x) = ((takeF ((putF k p).set i x)).1, (takeF ((putF k p).set i x)).2.1, (takeF ((putF k p).set i x)).2.2.1, 0) from by rw [← h])
    generalize (takeF ((putF k p).set i x)).2.2.1 = n at *
    generalize (takeF ((putF k p).set i x)).2.1 = t at *
    rw [List.length_set] at e3
    rcases Nat.lt_or_ge n (putF k p).length with hn | hn
    · exact hn
    exfalso
    have en : n = (putF k p).length := by omega
    rw [List.take_of_length_le (by rw [List.length_set]; omega)] at e4
    -- both are a body and the body's sum
    have hlen : (putF c t).length = (putF k p).length := by rw [← e4, List.length_set]
    have hb : (bodyF c t).length = (bodyF k p).length := by
      unfold putF at hlen
      rw [List.length_append, List.length_append, tailB_len, tailB_len] at hlen
      omega
    unfold putF at e4 hi hx
    rcases Nat.lt_or_ge i (bodyF k p).length with hlt | hge
    · rw [List.set_append_left _ _ hlt] at e4
      obtain ⟨f1, f2⟩ := List.append_inj e4 (by rw [List.length_set]; omega)
      have f3 := tailB_inj _ _ (adler_lt _) (adler_lt _) f2
      rw [← f1] at f3
      have g1 : (bodyF k p).set i x = (bodyF k p).take i ++ x :: (bodyF k p).drop (i + 1) := by rw [List.set_eq_take_append_cons_drop, if_pos hlt]
      have g2 : bodyF k p = (bodyF k p).take i ++ (bodyF k p)[i] :: (bodyF k p).drop (i + 1) := by simp
      have f4 : adler ((bodyF k p).take i ++ (bodyF k p)[i] :: (bodyF k p).drop (i + 1)) = adler ((bodyF k p).take i ++ x :: (bodyF k p).drop (i + 1)) := by
        rw [← g1, ← g2]; exact f3
      have f5 := (adler_spoilt _ _ _ _).1 f4
      rw [List.getElem_append_left hlt] at hx
      exact hx f5
    · rw [List.set_append_right _ _ hge] at e4
      obtain ⟨f1, f2⟩ := List.append_inj e4 hb.symm
      rw [← f1] at f2
      have hlt2 : i - (bodyF k p).length < (tailB (adler (bodyF k p))).length := by
        rw [List.length_append] at hi; omega
      have f6 := congrArg (fun l => l[i - (bodyF k p).length]?) f2
      simp only [List.getElem?_set_self hlt2] at f6
      rw [List.getElem?_eq_getElem hlt2] at f6
      rw [List.getElem_append_right hge] at hx
      exact hx (Option.some.inj f6).symm
  · exact .inl h

/-- All frames that bytes begin with, and how far these go. -/
def allF : Nat → List UInt8 → List (Nat × List UInt8) × Nat
  | 0, _ => ([], 0)
  | f + 1, s => if (takeF s).2.2.2 ≠ 0 then ([], 0) else (((takeF s).1, (takeF s).2.1) :: (allF f (s.drop (takeF s).2.2.1)).1, (takeF s).2.2.1 + (allF f (s.drop (takeF s).2.2.1)).2)

end Cl
