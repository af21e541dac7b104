/-
  Plain facts on the sum (two remainders by 65521): no program in sight.
-/
import Derived.Test.YtllecjhfbojgcaaLib
import Derived.WalkKit
import Derived.WalkSpells
import Derived.WalkLawsBesides
import Derived.Lib.Hide
namespace Cl

/-- One byte more. -/
def stp (p : Nat × Nat) (c : UInt8) : Nat × Nat := ((p.1 + c.toNat) % 65521, (p.2 + (p.1 + c.toNat) % 65521) % 65521)

def run (p : Nat × Nat) (l : List UInt8) : Nat × Nat := l.foldl stp p

/-- A sum goes on. -/
def more (n : Nat) (l : List UInt8) : Nat := (run (n % 65536, n / 65536) l).2 * 65536 + (run (n % 65536, n / 65536) l).1

/-- The sum of bytes. -/
def adler (l : List UInt8) : Nat := more 1 l

theorem run_nil (p : Nat × Nat) : run p [] = p := rfl
theorem run_cons (p : Nat × Nat) (c : UInt8) (l : List UInt8) : run p (c :: l) = run (stp p c) l := rfl
theorem run_append (p : Nat × Nat) (a b : List UInt8) : run p (a ++ b) = run (run p a) b := by unfold run; rw [List.foldl_append]
theorem run_snoc (p : Nat × Nat) (l : List UInt8) (c : UInt8) : run p (l ++ [c]) = stp (run p l) c := by rw [run_append]; rfl

theorem run_lt (l : List UInt8) : ∀ p : Nat × Nat, p.1 < 65536 → p.2 < 65536 → (run p l).1 < 65536 ∧ (run p l).2 < 65536 := by
  induction l with
  | nil => intro p h1 h2; exact ⟨h1, h2⟩
  | cons c l ih =>
    intro p _ _
    rw [run_cons]
    apply ih
    · unfold stp; simp only; omega
    · unfold stp; simp only; omega

theorem more_lt (n : Nat) (l : List UInt8) (h : n < 4294967296) : more n l < 4294967296 := by
  obtain ⟨h1, h2⟩ := run_lt l (n % 65536, n / 65536) (by simp only; omega) (by simp only; omega)
  unfold more; omega

theorem more_parts (n : Nat) (l : List UInt8) (h : n < 4294967296) : more n l % 65536 = (run (n % 65536, n / 65536) l).1 ∧ more n l / 65536 = (run (n % 65536, n / 65536) l).2 := by
  obtain ⟨h1, h2⟩ := run_lt l (n % 65536, n / 65536) (by simp only; omega) (by simp only; omega)
  unfold more; omega

theorem more_append (n : Nat) (a b : List UInt8) (h : n < 4294967296) : more (more n a) b = more n (a ++ b) := by
  obtain ⟨h1, h2⟩ := more_parts n a h
  rw [more, h1, h2, more, run_append]

theorem more_nil (n : Nat) : more n [] = n := by unfold more; rw [run_nil]; simp only; omega

theorem adler_append (a b : List UInt8) : more (adler a) b = adler (a ++ b) := more_append 1 a b (by omega)
theorem adler_lt (l : List UInt8) : adler l < 4294967296 := more_lt 1 l (by omega)
theorem adler_nil : adler [] = 1 := more_nil 1

/-- The bytes' plain sum, and the sum of these sums. -/
def sS : List UInt8 → Nat
  | [] => 0
  | c :: l => c.toNat + sS l
def sT : List UInt8 → Nat
  | [] => 0
  | c :: l => (l.length + 1) * c.toNat + sT l

theorem sS_cons (c : UInt8) (l : List UInt8) : sS (c :: l) = c.toNat + sS l := rfl
theorem sT_cons (c : UInt8) (l : List UInt8) : sT (c :: l) = (l.length + 1) * c.toNat + sT l := rfl
theorem sS_append (a b : List UInt8) : sS (a ++ b) = sS a + sS b := by
  induction a with
  | nil => simp [sS]
  | cons c l ih => simp only [List.cons_append, sS, ih]; omega

theorem sT_append (a b : List UInt8) : sT (a ++ b) = sT a + b.length * sS a + sT b := by
  induction a with
  | nil => simp [sT, sS]
  | cons c l ih =>
    simp only [List.cons_append, sT, sS, ih, List.length_append]
    have e : (l.length + b.length + 1) * c.toNat = (l.length + 1) * c.toNat + b.length * c.toNat := by
      rw [← Nat.add_mul]; congr 1; omega
    rw [e, Nat.mul_add]
    omega

theorem modeq_mul (k x y m : Nat) (h : x % m = y % m) : (k * x) % m = (k * y) % m := by
  rw [Nat.mul_mod, h, ← Nat.mul_mod]

theorem run_tells (l : List UInt8) : ∀ p : Nat × Nat, (run p l).1 % 65521 = (p.1 + sS l) % 65521 ∧ (run p l).2 % 65521 = (p.2 + l.length * p.1 + sT l) % 65521 := by
  induction l with
  | nil => intro p; simp [run_nil, sS, sT]
  | cons c l ih =>
    intro p
    obtain ⟨h1, h2⟩ := ih (stp p c)
    rw [run_cons]
    refine ⟨?_, ?_⟩
    · rw [h1, sS_cons]; unfold stp; simp only; omega
    · rw [h2, sT_cons]
      unfold stp
      simp only [List.length_cons]
      have e1 : (l.length * ((p.1 + c.toNat) % 65521)) % 65521 = (l.length * (p.1 + c.toNat)) % 65521 := modeq_mul _ _ _ _ (by omega)
      have e2 : (l.length + 1) * c.toNat = l.length * c.toNat + c.toNat := by rw [Nat.add_mul, Nat.one_mul]
      have e3 : (l.length + 1) * p.1 = l.length * p.1 + p.1 := by rw [Nat.add_mul, Nat.one_mul]
      have e4 : l.length * (p.1 + c.toNat) = l.length * p.1 + l.length * c.toNat := Nat.mul_add _ _ _
      rw [e2, e3]
      rw [e4] at e1
      generalize l.length * ((p.1 + c.toNat) % 65521) = X at *
      generalize l.length * p.1 = Y at *
      generalize l.length * c.toNat = Z at *
      omega

theorem run_small (l : List UInt8) : ∀ p : Nat × Nat, p.1 < 65521 → p.2 < 65521 → (run p l).1 < 65521 ∧ (run p l).2 < 65521 := by
  induction l with
  | nil => intro p h1 h2; exact ⟨h1, h2⟩
  | cons c l ih =>
    intro p _ _
    rw [run_cons]
    apply ih
    · unfold stp; simp only; omega
    · unfold stp; simp only; omega

theorem adler_parts (l : List UInt8) : adler l % 65536 = (1 + sS l) % 65521 ∧ adler l / 65536 = (l.length + sT l) % 65521 := by
  obtain ⟨h1, h2⟩ := more_parts 1 l (by omega)
  obtain ⟨h3, h4⟩ := run_small l (1 % 65536, 1 / 65536) (by simp only; omega) (by simp only; omega)
  obtain ⟨h5, h6⟩ := run_tells l (1 % 65536, 1 / 65536)
  unfold adler
  rw [h1, h2]
  simp only at h5 h6
  generalize run (1 % 65536, 1 / 65536) l = q at *
  have e : l.length * (1 % 65536) = l.length := by simp
  rw [e] at h6
  omega

theorem adler_eq (l : List UInt8) : adler l = (l.length + sT l) % 65521 * 65536 + (1 + sS l) % 65521 := by
  obtain ⟨h1, h2⟩ := adler_parts l
  omega

/-- What joins two sums. -/
def joined (x y many : Nat) : Nat :=
  (x / 65536 + y / 65536 + many % 65521 * ((x % 65536 + 65520) % 65521)) % 65521 * 65536 + (x % 65536 + y % 65536 + 65520) % 65521

theorem joined_lt (x y many : Nat) : joined x y many < 4294967296 := by
  unfold joined
  omega

theorem adler_joins (a b : List UInt8) : joined (adler a) (adler b) b.length = adler (a ++ b) := by
  obtain ⟨h1, h2⟩ := adler_parts a
  obtain ⟨h3, h4⟩ := adler_parts b
  rw [adler_eq (a ++ b)]
  unfold joined
  rw [h1, h2, h3, h4, sS_append, sT_append, List.length_append]
  have e : (b.length % 65521 * (((1 + sS a) % 65521 + 65520) % 65521)) % 65521 = (b.length * sS a) % 65521 := by
    rw [Nat.mul_mod, Nat.mod_mod, Nat.mod_mod, show ((1 + sS a) % 65521 + 65520) % 65521 = sS a % 65521 from by omega, ← Nat.mul_mod]
  generalize b.length % 65521 * (((1 + sS a) % 65521 + 65520) % 65521) = X at *
  generalize b.length * sS a = Y at *
  omega

theorem joined_empty (a : List UInt8) : joined (adler a) 1 0 = adler a := by
  have h := adler_joins a []
  rw [adler_nil] at h
  simpa using h

theorem joined_assoc (a b c : List UInt8) : joined (joined (adler a) (adler b) b.length) (adler c) c.length = joined (adler a) (joined (adler b) (adler c) c.length) (b.length + c.length) := by
  rw [adler_joins, adler_joins, adler_joins]
  have h := adler_joins a (b ++ c)
  rw [List.length_append] at h
  rw [h, List.append_assoc]

/-- One byte otherwise, another sum. -/
theorem adler_spoilt (a b : List UInt8) (c d : UInt8) : adler (a ++ c :: b) = adler (a ++ d :: b) ↔ c = d := by
  constructor
  · intro h
    have h1 := (adler_parts (a ++ c :: b)).1
    have h2 := (adler_parts (a ++ d :: b)).1
    rw [h, h2, sS_append, sS_append] at h1
    simp only [sS] at h1
    have hc := c.toNat_lt
    have hd := d.toNat_lt
    apply UInt8.toNat_inj.1
    omega
  · rintro rfl; rfl

end Cl

/-
  The walks through package sum, and the reference's sum.
-/
namespace Go.Proofs.Ytllecjhfbojgcaa
open Go.RowKit
set_option maxRecDepth 20000

theorem take_snoc (s : ByteArray) (k : Nat) (h : k < s.size) : s.data.toList.take (k + 1) = s.data.toList.take k ++ [s[k]] := by
  rw [List.take_succ_eq_append_getElem (by simpa using h)]; rfl

theorem take_all (s : ByteArray) (k : Nat) (h : s.size ≤ k) : s.data.toList.take k = s.data.toList := List.take_of_length_le (by simpa using h)

theorem stp_fst (x y : Nat) (c : UInt8) : ((Cl.stp (x, y) c).1 : Int) = ((x : Int) + c.toNat) % 65521 := by unfold Cl.stp; simp
theorem stp_snd (x y : Nat) (c : UInt8) : ((Cl.stp (x, y) c).2 : Int) = ((y : Int) + ((x : Int) + c.toNat) % 65521) % 65521 := by unfold Cl.stp; simp

theorem and16 (n : Nat) (hn : n < 4294967296) : bits .and .u32 (n : Int) 65535 = ((n % 65536 : Nat) : Int) := by
  rw [show (65535 : Int) = ((65535 : Nat) : Int) from rfl, u32_and_nat n 65535 hn (by omega), nat_mask16]

theorem or16 (x y : Nat) (hx : x < 65536) (hy : y < 65536) : bits .or .u64 ((y : Int) * 65536) (x : Int) % 4294967296 = ((y * 65536 + x : Nat) : Int) := by
  rw [show ((y : Int) * 65536) = ((y * 65536 : Nat) : Int) from by simp, u64_or_nat _ x (by omega) (by omega), nat_join 16 _ _ (by omega) (by omega)]
  omega

set_option maxHeartbeats 400000 in
theorem more_any (n : Nat) (s : ByteArray) (w : World) (hn : n < 4294967296) (hs : s.size ≤ maxLen) :
    Calls Try.prog 117 #[.int .u32 n, .string s] w fun e w' => e = .returned (.int .u32 (Cl.more n s.data.toList)) ∧ w = w' := by
  unfold maxLen at hs
  have hb := and16 n hn
  go_enter Try.func117, Try.ntmps117
  go_wp2
  go_loop [5, 6, 16] (fun a b i => ∃ k x y : Nat, k ≤ s.size ∧ i = .int .i64 k ∧ a = .int .u64 x ∧ b = .int .u64 y ∧ x < 65536 ∧ y < 65536 ∧ Hid (Cl.run (n % 65536, n / 65536) (s.data.toList.take k) = (x, y))) (fun _ _ i => s.size - (intOf i).toNat)
  case atStart => exact ⟨0, n % 65536, n / 65536, Nat.zero_le _, rfl, rfl, rfl, by omega, by omega, Lib.hid (by simp [Cl.run])⟩
  case round =>
    obtain ⟨k, x, y, hk, rfl, rfl, rfl, hx, hy, HR⟩ := hrel
    by_cases hlt : k < s.size
    · have hc : s[k].toNat < 256 := s[k].toNat_lt
      go_wp2
      go_round
      case rel =>
        refine ⟨k + 1, (Cl.stp (x, y) s[k]).1, (Cl.stp (x, y) s[k]).2, by omega, by go_num, ?_, ?_, ?_, ?_, ?_⟩
        · rw [stp_fst]
        · rw [stp_snd]
        · unfold Cl.stp; simp only; omega
        · unfold Cl.stp; simp only; omega
        · refine Lib.hid ?_
          rw [take_snoc s k hlt, Cl.run_snoc, HR.out]
      case measure => simp [intOf]; omega
    · go_wp2
      go_ret
      refine ⟨ret_int ?_, rfl⟩
      rw [or16 x y hx hy]
      have h := HR.out
      rw [take_all s k (by omega)] at h
      unfold Cl.more
      rw [h]

/-- All parts' bytes. -/
def cat (ss : List ByteArray) : List UInt8 := ss.flatMap (fun s => s.data.toList)
theorem cat_snoc (ss : List ByteArray) (s : ByteArray) : cat (ss ++ [s]) = cat ss ++ s.data.toList := by simp [cat]
set_option maxHeartbeats 400000 in
theorem sumof_any (b off cap : Nat) (ss : List ByteArray) (w : World) (hl : ss.length ≤ maxLen) (hz : ∀ s ∈ ss, s.size ≤ maxLen)
    (hc : ∀ i s, ss[i]? = some s → w.cell? ⟨b, off + i, none⟩ = some (.string s)) :
    Calls Try.prog 106 #[.slice (some ⟨b, off, none⟩) ss.length cap] w fun e w' => e = .returned (.int .u32 (Cl.adler (cat ss))) ∧ w = w' := by
  unfold maxLen at hl
  go_enter Try.func106, Try.ntmps106
  go_wp2
  have HC := Lib.hid hc
  clear hc
  go_loop [3, 7] (fun n i => ∃ k : Nat, k ≤ ss.length ∧ i = .int .i64 k ∧ n = .int .u32 (Cl.adler (cat (ss.take k)))) (fun _ i => ss.length - (intOf i).toNat)
  case atStart => exact ⟨0, Nat.zero_le _, rfl, by simp [cat, Cl.adler_nil]⟩
  case round =>
    obtain ⟨k, hk, rfl, rfl⟩ := hrel
    by_cases hlt : k < ss.length
    · obtain ⟨s, hs⟩ : ∃ s, ss[k]? = some s := ⟨ss[k], by simp [hlt]⟩
      have hck := HC.out k s hs
      have hsz := hz s (List.mem_of_getElem? hs)
      have HS := Lib.hid hs
      clear hs
      have hn := Cl.adler_lt (cat (ss.take k))
      go_wp2_with (go_at_call 117; refine (more_any _ s _ hn hsz).mono ?_; rintro e w' ⟨rfl, rfl⟩)
      go_round
      case rel => exact ⟨k + 1, by omega, by go_num, by rw [Cl.adler_append, ← cat_snoc, ← take_snoc_of ss k s HS.out]⟩
      case measure => simp [intOf]; omega
    · go_wp2
      go_ret
      exact ⟨ret_int (by rw [List.take_of_length_le (by omega)]), rfl⟩

set_option maxHeartbeats 400000 in
theorem sumof_nil (w : World) :
    Calls Try.prog 106 #[.slice none 0 0] w fun e w' => e = .returned (.int .u32 1) ∧ w = w' := by
  go_enter Try.func106, Try.ntmps106
  go_wp2
  go_loop [3, 7] (fun n i => i = .int .i64 0 ∧ n = .int .u32 1) (fun _ _ => 0)
  case atStart => exact ⟨rfl, rfl⟩
  case round =>
    obtain ⟨rfl, rfl⟩ := hrel
    go_wp2
    go_ret
    exact ⟨rfl, rfl⟩

set_option maxHeartbeats 400000 in
theorem sumof_empty (a : Option Addr) (c : Nat) (w : World) :
    Calls Try.prog 106 #[.slice a 0 c] w fun e w' => e = .returned (.int .u32 1) ∧ w = w' := by
  go_enter Try.func106, Try.ntmps106
  go_wp2
  go_loop [3, 7] (fun n i => i = .int .i64 0 ∧ n = .int .u32 1) (fun _ _ => 0)
  case atStart => exact ⟨rfl, rfl⟩
  case round =>
    obtain ⟨rfl, rfl⟩ := hrel
    go_wp2
    go_ret
    exact ⟨rfl, rfl⟩

set_option maxHeartbeats 400000 in
theorem refof_any (s : ByteArray) (w : World) (hs : s.size ≤ maxLen) :
    Calls Try.prog 114 #[.string s] w fun e w' => e = .returned (.int .u32 (Cl.adler s.data.toList)) ∧ w = w' := by
  unfold maxLen at hs
  go_enter Try.func114, Try.ntmps114
  go_wp2
  go_loop [3, 4, 5] (fun a b i => ∃ k x y : Nat, k ≤ s.size ∧ i = .int .i64 k ∧ a = .int .i64 x ∧ b = .int .i64 y ∧ x < 65536 ∧ y < 65536 ∧ Hid (Cl.run (1, 0) (s.data.toList.take k) = (x, y))) (fun _ _ i => s.size - (intOf i).toNat)
  case atStart => exact ⟨0, 1, 0, Nat.zero_le _, rfl, rfl, rfl, by omega, by omega, Lib.hid (by simp [Cl.run])⟩
  case round =>
    obtain ⟨k, x, y, hk, rfl, rfl, rfl, hx, hy, HR⟩ := hrel
    by_cases hlt : k < s.size
    · have hc : s[k].toNat < 256 := s[k].toNat_lt
      go_wp2
      go_round
      case rel =>
        refine ⟨k + 1, (Cl.stp (x, y) s[k]).1, (Cl.stp (x, y) s[k]).2, by omega, by go_num, ?_, ?_, ?_, ?_, ?_⟩
        · rw [stp_fst]
        · rw [stp_snd]
        · unfold Cl.stp; simp only; omega
        · unfold Cl.stp; simp only; omega
        · refine Lib.hid ?_
          rw [take_snoc s k hlt, Cl.run_snoc, HR.out]
      case measure => simp [intOf]; omega
    · go_wp2
      go_ret
      refine ⟨ret_int ?_, rfl⟩
      have h := HR.out
      rw [take_all s k (by omega)] at h
      unfold Cl.adler Cl.more
      rw [h]
      simp only
      omega

/-- The sum of one part that was just laid. -/
theorem sumof_one (s : ByteArray) (w : World) (n : Nat) (hn : n = w.heap.size) (hs : s.size ≤ maxLen) :
    Calls Try.prog 106 #[.slice (some ⟨n, 0, none⟩) 1 1] (w.alloc (.cells #[.string s] 9)) fun e w' => e = .returned (.int .u32 (Cl.adler s.data.toList)) ∧ w.alloc (.cells #[.string s] 9) = w' := by
  subst hn
  refine (sumof_any w.heap.size 0 1 [s] _ (by simp [maxLen]) (by simpa using hs) ?_).mono ?_
  · intro i x h
    rw [Nat.zero_add]
    refine cell_row w _ _ i _ ?_
    have h0 : i = 0 := by
      match i, h with
      | 0, _ => rfl
      | n + 1, h => simp at h
    subst h0
    simp at h
    simp [h]
  · rintro e w' ⟨rfl, rfl⟩
    exact ⟨by simp [cat], rfl⟩

theorem sumof_two (s t : ByteArray) (w : World) (n : Nat) (hn : n = w.heap.size) (hs : s.size ≤ maxLen) (ht : t.size ≤ maxLen) :
    Calls Try.prog 106 #[.slice (some ⟨n, 0, none⟩) 2 2] (w.alloc (.cells #[.string s, .string t] 9)) fun e w' => e = .returned (.int .u32 (Cl.adler (s.data.toList ++ t.data.toList))) ∧ w.alloc (.cells #[.string s, .string t] 9) = w' := by
  subst hn
  refine (sumof_any w.heap.size 0 2 [s, t] _ (by simp [maxLen]) (by simpa using ⟨hs, ht⟩) ?_).mono ?_
  · intro i x h
    rw [Nat.zero_add]
    refine cell_row w _ _ i _ ?_
    match i, h with
    | 0, h => simp at h; simp [h]
    | 1, h => simp at h; simp [h]
    | n + 2, h => simp at h
  · rintro e w' ⟨rfl, rfl⟩
    exact ⟨by simp [cat], rfl⟩


end Go.Proofs.Ytllecjhfbojgcaa
