/-
  Plain facts on numbers as bytes: no program in sight.
-/
namespace Cl

/-- A number's turned form, and back. -/
def zig (n : Int) : Nat := if n < 0 then (-(n + 1)).toNat * 2 + 1 else n.toNat * 2
def unzig (u : Nat) : Int := if u % 2 = 1 then -((u / 2 : Nat) : Int) - 1 else ((u / 2 : Nat) : Int)

theorem unzig_zig (n : Int) : unzig (zig n) = n := by
  unfold unzig zig
  split <;> split <;> omega

theorem zig_unzig (u : Nat) : zig (unzig u) = u := by
  unfold unzig zig
  split <;> split <;> omega

theorem zig_lt (n : Int) (h1 : -9223372036854775808 ≤ n) (h2 : n ≤ 9223372036854775807) : zig n < 18446744073709551616 := by
  unfold zig
  split <;> omega

theorem unzig_in (u : Nat) (h : u < 18446744073709551616) : -9223372036854775808 ≤ unzig u ∧ unzig u ≤ 9223372036854775807 := by
  unfold unzig
  split <;> omega

/-- The bytes of a turned number, at most fuel + 1 of them. -/
def vintF : Nat → Nat → List UInt8
  | 0, u => [UInt8.ofNat u]
  | k + 1, u => if u < 128 then [UInt8.ofNat u] else UInt8.ofNat (u % 128 + 128) :: vintF k (u / 128)

def vint (u : Nat) : List UInt8 := vintF 9 u

theorem vintF_small (k u : Nat) (h : u < 128) : vintF k u = [UInt8.ofNat u] := by
  cases k with
  | zero => rfl
  | succ k => rw [vintF, if_pos h]

theorem vintF_great (k u : Nat) (h : ¬ u < 128) : vintF (k + 1) u = UInt8.ofNat (u % 128 + 128) :: vintF k (u / 128) := by rw [vintF, if_neg h]

theorem vintF_len (k : Nat) : ∀ u, 1 ≤ (vintF k u).length ∧ (vintF k u).length ≤ k + 1 := by
  induction k with
  | zero => intro u; simp [vintF]
  | succ k ih =>
    intro u
    by_cases h : u < 128
    · rw [vintF_small _ _ h]; simp
    · rw [vintF_great _ _ h]
      have := ih (u / 128)
      simp only [List.length_cons]
      omega

theorem vint_len (u : Nat) : 1 ≤ (vint u).length ∧ (vint u).length ≤ 10 := vintF_len 9 u

/-- All numbers' bytes. -/
def put (ns : List Int) : List UInt8 := ns.flatMap fun n => vint (zig n)

theorem put_nil : put [] = [] := rfl
theorem put_cons (n : Int) (r : List Int) : put (n :: r) = vint (zig n) ++ put r := rfl
theorem put_append (a b : List Int) : put (a ++ b) = put a ++ put b := by simp [put]
theorem put_snoc (a : List Int) (n : Int) : put (a ++ [n]) = put a ++ vint (zig n) := by simp [put]
theorem put_one (n : Int) : put [n] = vint (zig n) := by simp [put]
theorem put_len (ns : List Int) : (put ns).length ≤ 10 * ns.length := by
  induction ns with
  | nil => simp [put]
  | cons n r ih =>
    have := vint_len (zig n)
    rw [put_cons, List.length_append, List.length_cons]
    omega

/-- How many bytes at the beginning go on. -/
def lead : List UInt8 → Nat
  | [] => 0
  | c :: r => if 128 ≤ c.toNat then lead r + 1 else 0

/-- What the bytes come to, the first one the least. -/
def dig : List UInt8 → Nat
  | [] => 0
  | c :: r => c.toNat % 128 + 128 * dig r

theorem lead_le : ∀ s : List UInt8, lead s ≤ s.length
  | [] => Nat.le_refl _
  | c :: r => by
    have := lead_le r
    unfold lead
    split
    · simp; omega
    · simp

theorem lead_on : ∀ (s : List UInt8) (j : Nat) (c : UInt8), j < lead s → s[j]? = some c → 128 ≤ c.toNat
  | [], j, c, h, _ => by simp [lead] at h
  | d :: r, j, c, h, hc => by
    unfold lead at h
    split at h
    · rename_i hd
      cases j with
      | zero => simp at hc; subst hc; exact hd
      | succ j => exact lead_on r j c (by omega) (by simpa using hc)
    · omega

theorem lead_off : ∀ (s : List UInt8) (c : UInt8), s[lead s]? = some c → c.toNat < 128
  | [], c, h => by simp at h
  | d :: r, c, h => by
    unfold lead at h
    split at h
    · exact lead_off r c (by simpa using h)
    · rename_i hd; simp at h; subst h; omega

/-- Where all before are told to go on and this one not, it is the place. -/
theorem lead_is : ∀ (s : List UInt8) (i : Nat) (c : UInt8), i ≤ lead s → s[i]? = some c → c.toNat < 128 → lead s = i
  | s, i, c, hi, hc, hlt => by
    rcases Nat.lt_or_ge i (lead s) with h | h
    · have := lead_on s i c h hc; omega
    · omega

theorem lead_step (s : List UInt8) (i : Nat) (c : UInt8) (hi : i ≤ lead s) (hc : s[i]? = some c) (hge : 128 ≤ c.toNat) : i + 1 ≤ lead s := by
  rcases Nat.lt_or_ge i (lead s) with h | h
  · exact h
  · have : i = lead s := by omega
    subst this
    have := lead_off s c hc
    omega

theorem dig_snoc : ∀ (l : List UInt8) (c : UInt8), dig (l ++ [c]) = dig l + c.toNat % 128 * 128 ^ l.length
  | [], c => by simp [dig]
  | d :: l, c => by
    rw [List.cons_append, dig, dig_snoc l c, dig, List.length_cons, Nat.pow_succ]
    have e : c.toNat % 128 * (128 ^ l.length * 128) = 128 * (c.toNat % 128 * 128 ^ l.length) := by
      rw [← Nat.mul_assoc, Nat.mul_comm]
    rw [e, Nat.mul_add]
    omega

theorem dig_lt : ∀ l : List UInt8, dig l < 128 ^ l.length
  | [] => by simp [dig]
  | c :: l => by
    have ih := dig_lt l
    rw [dig, List.length_cons, Nat.pow_succ]
    omega

/-- What Take answers: the number, how many bytes, the error. -/
def take (s : List UInt8) : Int × Nat × Int :=
  if 9 ≤ lead s ∧ 9 < s.length ∧ 1 < (s.getD 9 0).toNat then (0, 0, 21)
  else if lead s = s.length then (0, 0, 20)
  else if 0 < lead s ∧ (s.getD (lead s) 0).toNat = 0 then (0, 0, 21)
  else (unzig (dig (s.take (lead s + 1))), lead s + 1, 0)

/-- A number's bytes, whatever stands behind: where they end. -/
theorem vintF_lead (k : Nat) : ∀ (u : Nat) (r : List UInt8), u < 128 ^ (k + 1) → lead (vintF k u ++ r) + 1 = (vintF k u).length ∧ dig (vintF k u) = u ∧
    (1 < (vintF k u).length → ((vintF k u ++ r).getD ((vintF k u).length - 1) 0).toNat ≠ 0) ∧ (128 ^ k ≤ u → (vintF k u).length = k + 1 ∧ ((vintF k u ++ r).getD k 0).toNat = u / 128 ^ k) := by
  induction k with
  | zero =>
    intro u r hu
    have e : (UInt8.ofNat u).toNat = u := by rw [UInt8.toNat_ofNat']; omega
    refine ⟨?_, ?_, ?_, ?_⟩
    · simp only [vintF, List.cons_append, List.nil_append, lead, e]; rw [if_neg (by omega)]; rfl
    · simp only [vintF, dig, e]; omega
    · simp [vintF]
    · intro _; simp [vintF]; omega
  | succ k ih =>
    intro u r hu
    by_cases h : u < 128
    · have e : (UInt8.ofNat u).toNat = u := by rw [UInt8.toNat_ofNat']; omega
      rw [vintF_small _ _ h]
      refine ⟨?_, ?_, ?_, ?_⟩
      · simp only [List.cons_append, List.nil_append, lead, e]; rw [if_neg (by omega)]; rfl
      · simp only [dig, e]; omega
      · simp
      · intro hk
        have : 128 ^ 1 ≤ 128 ^ (k + 1) := Nat.pow_le_pow_right (by omega) (by omega)
        omega
    · have e : (UInt8.ofNat (u % 128 + 128)).toNat = u % 128 + 128 := by rw [UInt8.toNat_ofNat']; omega
      have hu2 : u / 128 < 128 ^ (k + 1) := by
        rw [Nat.pow_succ] at hu
        exact Nat.div_lt_of_lt_mul (by rw [Nat.mul_comm]; exact hu)
      obtain ⟨h1, h2, h3, h4⟩ := ih (u / 128) r hu2
      have hl := vintF_len k (u / 128)
      rw [vintF_great _ _ h]
      refine ⟨?_, ?_, ?_, ?_⟩
      · simp only [List.cons_append, lead, e]
        rw [if_pos (by omega), h1]
        simp
      · simp only [dig, e, h2]; omega
      · intro _
        simp only [List.length_cons, List.cons_append]
        by_cases hl1 : 1 < (vintF k (u / 128)).length
        · have := h3 hl1
          rw [show (vintF k (u / 128)).length + 1 - 1 = ((vintF k (u / 128)).length - 1) + 1 from by omega]
          rw [List.getD_cons_succ]
          exact this
        · have hl2 : (vintF k (u / 128)).length = 1 := by omega
          rw [hl2]
          -- one byte, and it is not 0
          have hs : u / 128 < 128 := by
            rcases Nat.lt_or_ge (u / 128) 128 with h' | h'
            · exact h'
            · exfalso
              cases k with
              | zero => simp at hu2; omega
              | succ k =>
                rw [vintF_great _ _ (by omega)] at hl2
                have := vintF_len k (u / 128 / 128)
                simp at hl2
                rw [hl2] at this
                simp at this
          rw [vintF_small _ _ hs]
          simp only [List.cons_append, List.nil_append]
          show ((UInt8.ofNat (u / 128))).toNat ≠ 0
          rw [UInt8.toNat_ofNat']
          omega
      · intro hk
        have hk2 : 128 ^ k ≤ u / 128 := by
          rw [Nat.le_div_iff_mul_le (by omega)]
          rw [Nat.pow_succ] at hk
          exact hk
        obtain ⟨h5, h6⟩ := h4 hk2
        refine ⟨by simp [h5], ?_⟩
        rw [List.cons_append, List.getD_cons_succ, h6, Nat.div_div_eq_div_mul, Nat.pow_succ, Nat.mul_comm]

theorem pow9 : (128 : Nat) ^ 9 = 9223372036854775808 := by decide
theorem pow10 : (128 : Nat) ^ 10 = 1180591620717411303424 := by decide

/-- A number's bytes are taken as that number, whatever stands behind them. -/
theorem take_vint (u : Nat) (r : List UInt8) (hu : u < 18446744073709551616) : take (vint u ++ r) = (unzig u, (vint u).length, 0) := by
  have hp10 := pow10
  have hp9 := pow9
  obtain ⟨h1, h2, h3, h4⟩ := vintF_lead 9 u r (by rw [pow10]; omega)
  obtain ⟨hl1, hl2⟩ := vint_len u
  change lead (vint u ++ r) + 1 = (vint u).length at h1
  change dig (vint u) = u at h2
  change 1 < (vint u).length → ((vint u ++ r).getD ((vint u).length - 1) 0).toNat ≠ 0 at h3
  change 128 ^ 9 ≤ u → (vint u).length = 9 + 1 ∧ ((vint u ++ r).getD 9 0).toNat = u / 128 ^ 9 at h4
  have hlen : (vint u ++ r).length = (vint u).length + r.length := List.length_append
  unfold take
  rw [if_neg, if_neg, if_neg]
  · rw [h1, List.take_left, h2]
  · rintro ⟨ha, hb⟩
    refine h3 (by omega) ?_
    rw [← h1]
    exact hb
  · omega
  · rintro ⟨ha, hb, hc⟩
    by_cases h9 : 128 ^ 9 ≤ u
    · have := (h4 h9).2
      rw [this, pow9] at hc
      rw [pow9] at h9
      omega
    · -- fewer than ten bytes
      have hlt : dig (vint u) < 128 ^ 9 := by rw [h2]; omega
      have h10 : (vint u).length = 10 := by omega
      have hne := h3 (by omega)
      rw [h10] at hne
      -- the tenth byte is not 0, so the number is at least 128 ^ 9
      have hsplit : ∃ l c, vint u = l ++ [c] ∧ l.length = 9 := by
        refine ⟨(vint u).take 9, (vint u)[9]'(by omega), ?_, by rw [List.length_take]; omega⟩
        have := List.take_append_getElem (l := vint u) (i := 9) (by omega)
        rw [this, List.take_of_length_le (by omega)]
      obtain ⟨l, c, e, hl⟩ := hsplit
      rw [e, dig_snoc, hl] at hlt
      have hc9 : (vint u ++ r).getD 9 0 = c := by
        rw [e, List.append_assoc, List.getD_eq_getElem?_getD, List.getElem?_append_right (by omega), hl]
        simp
      rw [show (10 : Nat) - 1 = 9 from rfl, hc9] at hne
      have hlead := lead_off (vint u ++ r) c
      rw [show lead (vint u ++ r) = 9 from by omega] at hlead
      have hc128 := hlead (by
        rw [List.getD_eq_getElem?_getD] at hc9
        rw [List.getElem?_eq_getElem (by omega)] at hc9 ⊢
        simpa using hc9)
      rw [Nat.mod_eq_of_lt hc128] at hlt
      have : 1 * 128 ^ 9 ≤ c.toNat * 128 ^ 9 := Nat.mul_le_mul_right _ (by omega)
      omega

/-- Bytes of which all but the last go on, and the last is not 0 behind others, are the bytes of what they come to. -/
theorem vintF_dig : ∀ (l : List UInt8) (k : Nat), lead l + 1 = l.length → l.length ≤ k + 1 → (1 < l.length → (l.getD (l.length - 1) 0).toNat ≠ 0) → vintF k (dig l) = l
  | [], k, h, _, _ => by simp at h
  | [c], k, h, _, _ => by
    have hc : c.toNat < 128 := by
      simp only [lead, List.length_cons, List.length_nil] at h
      split at h
      · omega
      · omega
    have e : dig [c] = c.toNat := by simp only [dig]; omega
    rw [e, vintF_small _ _ hc]
    simp
  | c :: d :: r, k, h, hk, hne => by
    have hc : 128 ≤ c.toNat := by
      simp only [lead, List.length_cons] at h
      split at h
      · assumption
      · omega
    have h' : lead (d :: r) + 1 = (d :: r).length := by
      have : lead (c :: d :: r) = lead (d :: r) + 1 := by rw [lead, if_pos hc]
      rw [this] at h
      simp only [List.length_cons] at h ⊢
      omega
    have hlt := c.toNat_lt
    cases k with
    | zero => simp at hk
    | succ k =>
      have hne' : 1 < (d :: r).length → ((d :: r).getD ((d :: r).length - 1) 0).toNat ≠ 0 := by
        intro h1
        have := hne (by simp)
        simp only [List.length_cons, Nat.add_sub_cancel] at this ⊢
        rw [show r.length + 1 = r.length + 1 from rfl, List.getD_cons_succ] at this
        exact this
      have ih := vintF_dig (d :: r) k h' (by simp at hk ⊢; omega) hne'
      -- what stands behind is not 0
      have hpos : 0 < dig (d :: r) := by
        have hlast : ((d :: r).getD ((d :: r).length - 1) 0).toNat ≠ 0 := by
          have := hne (by simp)
          simp only [List.length_cons, Nat.add_sub_cancel] at this ⊢
          rw [List.getD_cons_succ] at this
          exact this
        have hls := lead_off (d :: r) ((d :: r).getD ((d :: r).length - 1) 0) (by
          rw [show lead (d :: r) = (d :: r).length - 1 from by omega, List.getD_eq_getElem?_getD, List.getElem?_eq_getElem (by simp)]
          simp)
        have e : d :: r = (d :: r).take ((d :: r).length - 1) ++ [(d :: r).getD ((d :: r).length - 1) 0] := by
          have := List.take_append_getElem (l := d :: r) (i := (d :: r).length - 1) (by simp)
          rw [List.getD_eq_getElem?_getD, List.getElem?_eq_getElem (by simp)]
          simp only [Option.getD_some]
          rw [this, List.take_of_length_le (by simp)]
        rw [e, dig_snoc, Nat.mod_eq_of_lt hls]
        have : 0 < ((d :: r).getD ((d :: r).length - 1) 0).toNat * 128 ^ ((d :: r).take ((d :: r).length - 1)).length := Nat.mul_pos (by omega) (Nat.pow_pos (by omega))
        omega
      have hge : ¬ dig (c :: d :: r) < 128 := by rw [dig]; omega
      rw [vintF_great _ _ hge]
      have e1 : dig (c :: d :: r) / 128 = dig (d :: r) := by rw [dig]; omega
      have e2 : dig (c :: d :: r) % 128 + 128 = c.toNat := by rw [dig]; omega
      rw [e1, e2, ih]
      simp


/-- What Take answers where it takes a number. -/
theorem take_ok (s : List UInt8) (n : Int) (k : Nat) (h : take s = (n, k, 0)) :
    lead s + 1 = k ∧ k ≤ s.length ∧ 1 ≤ k ∧ k ≤ 10 ∧ s.take k = vint (zig n) ∧ dig (s.take k) < 18446744073709551616 ∧ n = unzig (dig (s.take k)) ∧ -9223372036854775808 ≤ n ∧ n ≤ 9223372036854775807 := by
  have hle := lead_le s
  unfold take at h
  split at h
  · simp at h
  split at h
  · simp at h
  split at h
  · simp at h
  rename_i h1 h2 h3
  simp only [Prod.mk.injEq, and_true] at h
  obtain ⟨rfl, rfl⟩ := h
  have hlt : lead s < s.length := by omega
  have hlead10 : lead s ≤ 9 := by
    rcases Nat.lt_or_ge 9 (lead s) with h9 | h9
    · exfalso
      have hc := lead_on s 9 (s.getD 9 0) h9 (by rw [List.getD_eq_getElem?_getD, List.getElem?_eq_getElem (by omega)]; rfl)
      omega
    · exact h9
  have hl : (s.take (lead s + 1)).length = lead s + 1 := by rw [List.length_take]; omega
  have hat : ∀ j, j < lead s + 1 → (s.take (lead s + 1)).getD j 0 = s.getD j 0 := by
    intro j hj
    rw [List.getD_eq_getElem?_getD, List.getD_eq_getElem?_getD, List.getElem?_take_of_lt hj]
  have hlead : lead (s.take (lead s + 1)) + 1 = (s.take (lead s + 1)).length := by
    rw [hl]
    have hc : (s.take (lead s + 1))[lead s]? = s[lead s]? := List.getElem?_take_of_lt (by omega)
    have : ∀ i, i ≤ lead s → i ≤ lead (s.take (lead s + 1)) := by
      intro i
      induction i with
      | zero => intro _; omega
      | succ i ih =>
        intro hi
        have hci : (s.take (lead s + 1))[i]? = some (s[i]'(by omega)) := by rw [List.getElem?_take_of_lt (by omega), List.getElem?_eq_getElem (by omega)]
        exact lead_step _ i _ (ih (by omega)) hci (lead_on s i _ (by omega) (List.getElem?_eq_getElem (by omega)))
    have h4 := this (lead s) (Nat.le_refl _)
    have h5 := lead_is (s.take (lead s + 1)) (lead s) (s[lead s]'hlt) h4 (by rw [hc, List.getElem?_eq_getElem hlt]) (lead_off s _ (List.getElem?_eq_getElem hlt))
    omega
  have hdig := vintF_dig (s.take (lead s + 1)) 9 hlead (by omega) (by
    intro hgt
    rw [hl, Nat.add_sub_cancel, hat _ (by omega)]
    intro h0
    exact h3 ⟨by omega, h0⟩)
  have hdl : dig (s.take (lead s + 1)) < 18446744073709551616 := by
    have hd := dig_lt (s.take (lead s + 1))
    rw [hl] at hd
    rcases Nat.lt_or_ge (lead s) 9 with h9 | h9
    · have : 128 ^ (lead s + 1) ≤ 128 ^ 9 := Nat.pow_le_pow_right (by omega) (by omega)
      have := pow9
      omega
    · have e9 : lead s = 9 := by omega
      have hc : (s.getD 9 0).toNat ≤ 1 := by omega
      have e : s.take (lead s + 1) = s.take 9 ++ [s.getD 9 0] := by
        rw [e9]
        have := List.take_append_getElem (l := s) (i := 9) (by omega)
        rw [List.getD_eq_getElem?_getD, List.getElem?_eq_getElem (by omega)]
        exact this.symm
      rw [e, dig_snoc]
      have hd9 := dig_lt (s.take 9)
      have hl9 : (s.take 9).length = 9 := by rw [List.length_take]; omega
      rw [hl9] at hd9 ⊢
      have hm : (s.getD 9 0).toNat % 128 ≤ 1 := by omega
      have := Nat.mul_le_mul_right (128 ^ 9) hm
      have := pow9
      omega
  refine ⟨rfl, by omega, by omega, by omega, ?_, hdl, rfl, (unzig_in _ hdl).1, (unzig_in _ hdl).2⟩
  rw [zig_unzig]
  exact hdig.symm

/-- What Take answers where it takes none. -/
theorem take_bad (s : List UInt8) (h : (take s).2.2 ≠ 0) : (take s).1 = 0 ∧ (take s).2.1 = 0 ∧ ((take s).2.2 = 20 ∨ (take s).2.2 = 21) := by
  unfold take at h ⊢
  split
  · simp
  split
  · simp
  split
  · simp
  · rename_i h1 h2 h3
    rw [if_neg h1, if_neg h2, if_neg h3] at h
    exact absurd rfl h

theorem take_err (s : List UInt8) : (take s).2.2 = 0 ∨ (take s).2.2 = 20 ∨ (take s).2.2 = 21 := by
  by_cases h : (take s).2.2 = 0
  · exact .inl h
  · exact .inr (take_bad s h).2.2

/-- A number's bytes begin another one's just if they are the same. -/
theorem vint_begins (a b : Int) (r : List UInt8) (ha : -9223372036854775808 ≤ a ∧ a ≤ 9223372036854775807) (hb : -9223372036854775808 ≤ b ∧ b ≤ 9223372036854775807) (h : vint (zig b) = vint (zig a) ++ r) : a = b := by
  have h1 := take_vint (zig a) r (zig_lt a ha.1 ha.2)
  have h2 := take_vint (zig b) [] (zig_lt b hb.1 hb.2)
  rw [List.append_nil] at h2
  rw [← h, h2] at h1
  simp only [unzig_zig, Prod.mk.injEq] at h1
  exact h1.1.symm

/-- Numbers: goes over the bytes. -/
def numsA : Nat → List UInt8 → List Int → List Int × Int
  | 0, _, _ => ([], 0)
  | f + 1, s, acc => if s = [] then (acc, 0) else if (take s).2.2 = 0 then numsA f (s.drop (take s).2.1) (acc ++ [(take s).1]) else ([], (take s).2.2)

def nums (s : List UInt8) : List Int × Int := numsA (s.length + 1) s []

theorem numsA_nil (f : Nat) (acc : List Int) : numsA (f + 1) [] acc = (acc, 0) := by rw [numsA, if_pos rfl]
theorem numsA_ok (f : Nat) (s : List UInt8) (acc : List Int) (hs : s ≠ []) (h : (take s).2.2 = 0) : numsA (f + 1) s acc = numsA f (s.drop (take s).2.1) (acc ++ [(take s).1]) := by
  rw [numsA, if_neg hs, if_pos h]
theorem numsA_bad (f : Nat) (s : List UInt8) (acc : List Int) (hs : s ≠ []) (h : (take s).2.2 ≠ 0) : numsA (f + 1) s acc = ([], (take s).2.2) := by
  rw [numsA, if_neg hs, if_neg h]

theorem vint_ne (u : Nat) (r : List UInt8) : vint u ++ r ≠ [] := by
  intro h
  have := (vint_len u).1
  have h2 := congrArg List.length h
  rw [List.length_append, List.length_nil] at h2
  omega

def In64 (n : Int) : Prop := -9223372036854775808 ≤ n ∧ n ≤ 9223372036854775807

theorem numsA_put : ∀ (l : List Int) (f : Nat) (acc : List Int), (∀ n ∈ l, In64 n) → (put l).length < f → numsA f (put l) acc = (acc ++ l, 0)
  | [], f, acc, _, hf => by
    cases f with
    | zero => omega
    | succ f => rw [put_nil, numsA_nil, List.append_nil]
  | n :: l, f, acc, hl, hf => by
    cases f with
    | zero => omega
    | succ f =>
      have hn := hl n (by simp)
      have ht := take_vint (zig n) (put l) (zig_lt n hn.1 hn.2)
      rw [unzig_zig] at ht
      rw [put_cons] at hf ⊢
      have hlen := vint_len (zig n)
      rw [List.length_append] at hf
      rw [numsA_ok f _ acc (vint_ne _ _) (by rw [ht]), ht]
      simp only [List.drop_left]
      rw [numsA_put l f (acc ++ [n]) (fun m hm => hl m (by simp [hm])) (by omega)]
      simp

theorem nums_put (l : List Int) (hl : ∀ n ∈ l, In64 n) : nums (put l) = (l, 0) := by
  unfold nums
  rw [numsA_put l _ [] hl (by omega)]
  simp

theorem numsA_back : ∀ (f : Nat) (s : List UInt8) (acc r : List Int), s.length < f → numsA f s acc = (r, 0) → ∃ l, r = acc ++ l ∧ put l = s ∧ ∀ n ∈ l, In64 n
  | 0, s, acc, r, hf, _ => by omega
  | f + 1, s, acc, r, hf, h => by
    by_cases hs : s = []
    · subst hs
      rw [numsA_nil] at h
      simp only [Prod.mk.injEq, and_true] at h
      exact ⟨[], by simp [h], rfl, by simp⟩
    · by_cases ht : (take s).2.2 = 0
      · rw [numsA_ok f s acc hs ht] at h
        obtain ⟨h1, h2, h3, h4, h5, _, _, h6, h7⟩ := take_ok s (take s).1 (take s).2.1 (by rw [← ht])
        obtain ⟨l, e1, e2, e3⟩ := numsA_back f _ _ _ (by rw [List.length_drop]; omega) h
        refine ⟨(take s).1 :: l, by rw [e1]; simp, ?_, ?_⟩
        · rw [put_cons, e2, ← h5, List.take_append_drop]
        · intro n hn
          rcases List.mem_cons.1 hn with rfl | hn
          · exact ⟨h6, h7⟩
          · exact e3 n hn
      · rw [numsA_bad f s acc hs ht] at h
        simp only [Prod.mk.injEq] at h
        exact absurd h.2 ht

theorem nums_back (s : List UInt8) (r : List Int) (h : nums s = (r, 0)) : put r = s ∧ ∀ n ∈ r, In64 n := by
  obtain ⟨l, e1, e2, e3⟩ := numsA_back _ s [] r (by omega) h
  rw [List.nil_append] at e1
  subst e1
  exact ⟨e2, e3⟩

theorem numsA_len : ∀ (f : Nat) (s : List UInt8) (acc : List Int), (numsA f s acc).1.length ≤ acc.length + s.length
  | 0, s, acc => by simp [numsA]
  | f + 1, s, acc => by
    by_cases hs : s = []
    · subst hs; rw [numsA_nil]; simp
    · by_cases ht : (take s).2.2 = 0
      · rw [numsA_ok f s acc hs ht]
        obtain ⟨h1, h2, h3, h4, h5, _, _, h6, h7⟩ := take_ok s (take s).1 (take s).2.1 (by rw [← ht])
        have := numsA_len f (s.drop (take s).2.1) (acc ++ [(take s).1])
        rw [List.length_append, List.length_drop] at this
        simp at this
        omega
      · rw [numsA_bad f s acc hs ht]; simp

/-- How far a number is from 0; a number that is further from 0 has no fewer bytes. -/
def far (n : Int) : Nat := if n < 0 then (-(n + 1)).toNat else n.toNat

theorem zig_half (n : Int) : zig n / 2 = far n := by
  unfold zig far
  split <;> omega

theorem vintF_mono (k : Nat) : ∀ u v : Nat, u / 2 ≤ v / 2 → (vintF k u).length ≤ (vintF k v).length := by
  induction k with
  | zero => intro u v _; simp [vintF]
  | succ k ih =>
    intro u v h
    by_cases hu : u < 128
    · rw [vintF_small _ _ hu]
      have := vintF_len (k + 1) v
      simp; omega
    · rw [vintF_great _ _ hu, vintF_great _ _ (by omega)]
      have := ih (u / 128) (v / 128) (by omega)
      simp; omega

theorem vint_mono (a b : Int) (h : far a ≤ far b) : (vint (zig a)).length ≤ (vint (zig b)).length :=
  vintF_mono 9 _ _ (by rw [zig_half, zig_half]; exact h)

/-- A text's bytes. -/
def putText (s : List UInt8) : List UInt8 := vint (zig s.length) ++ s

/-- What TakeText answers: how many bytes of the number, the text's length, the error. -/
def takeText (s : List UInt8) : List UInt8 × Nat × Int :=
  if (take s).2.2 ≠ 0 then ([], 0, (take s).2.2)
  else if (take s).1 < 0 then ([], 0, 21)
  else if 65536 < (take s).1 then ([], 0, 3)
  else if (s.length : Int) - (take s).2.1 < (take s).1 then ([], 0, 20)
  else ((s.drop (take s).2.1).take (take s).1.toNat, (take s).2.1 + (take s).1.toNat, 0)

theorem takeText_put (s r : List UInt8) (hs : s.length ≤ 65536) : takeText (putText s ++ r) = (s, (putText s).length, 0) := by
  have ht := take_vint (zig s.length) (s ++ r) (zig_lt _ (by omega) (by omega))
  rw [unzig_zig] at ht
  unfold putText takeText
  rw [List.append_assoc, ht]
  simp only [ne_eq, not_true_eq_false, if_false]
  rw [if_neg (by omega), if_neg (by omega), if_neg (by simp only [List.length_append]; omega)]
  simp

theorem takeText_ok (s t : List UInt8) (k : Nat) (h : takeText s = (t, k, 0)) : k ≤ s.length ∧ s.take k = putText t ∧ t.length ≤ 65536 ∧ 1 ≤ k := by
  unfold takeText at h
  split at h
  · rename_i h0; simp at h; exact absurd h.2.2 h0
  split at h
  · simp at h
  split at h
  · simp at h
  split at h
  · simp at h
  rename_i h1 h2 h3 h4
  simp only [Prod.mk.injEq, and_true] at h
  obtain ⟨rfl, rfl⟩ := h
  have h1' : (take s).2.2 = 0 := Decidable.not_not.1 h1
  obtain ⟨e1, e2, e3, e4, e5, _, _, e6, e7⟩ := take_ok s (take s).1 (take s).2.1 (by rw [← h1'])
  have hl : ((s.drop (take s).2.1).take (take s).1.toNat).length = (take s).1.toNat := by
    rw [List.length_take, List.length_drop]; omega
  refine ⟨by omega, ?_, by omega, by omega⟩
  unfold putText
  rw [hl, List.take_add, e5]
  congr 3
  omega

theorem takeText_bad (s : List UInt8) (h : (takeText s).2.2 ≠ 0) : (takeText s).1 = [] ∧ (takeText s).2.1 = 0 := by
  unfold takeText at h ⊢
  split
  · exact ⟨rfl, rfl⟩
  split
  · exact ⟨rfl, rfl⟩
  split
  · exact ⟨rfl, rfl⟩
  split
  · exact ⟨rfl, rfl⟩
  · rename_i h1 h2 h3 h4
    rw [if_neg h1, if_neg h2, if_neg h3, if_neg h4] at h
    exact absurd rfl h

/-- What is taken is a number of 64 bits. -/
theorem take_width (l : List UInt8) (k : Nat) (c : UInt8) (h : k ≤ lead l) (hk9 : k ≤ 9) (hc : l[k]? = some c) (h9 : k = 9 → c.toNat ≤ 1) (_hlt : c.toNat < 128) : dig (l.take (k + 1)) < 18446744073709551616 := by
  have hl : k < l.length := (List.getElem?_eq_some_iff.1 hc).1
  rcases Nat.lt_or_ge k 9 with h8 | h8
  · have hd := dig_lt (l.take (k + 1))
    have hlen : (l.take (k + 1)).length = k + 1 := by rw [List.length_take]; omega
    rw [hlen] at hd
    have : 128 ^ (k + 1) ≤ 128 ^ 9 := Nat.pow_le_pow_right (by omega) (by omega)
    have := pow9
    omega
  · have e9 : k = 9 := by omega
    subst e9
    have h1 := h9 rfl
    have e : l.take (9 + 1) = l.take 9 ++ [c] := by rw [List.take_add_one, hc]; rfl
    have hl9 : (l.take 9).length = 9 := by rw [List.length_take]; omega
    have hd := dig_lt (l.take 9)
    rw [e, dig_snoc]
    rw [hl9] at hd ⊢
    have hm : c.toNat % 128 ≤ 1 := by omega
    have := Nat.mul_le_mul_right (128 ^ 9) hm
    have := pow9
    omega

end Cl
