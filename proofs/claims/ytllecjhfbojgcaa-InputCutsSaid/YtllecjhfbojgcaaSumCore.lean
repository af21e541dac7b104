/-
  The walks through package sum, and the reference's sum.
-/
import Derived.Test.YtllecjhfbojgcaaLib
import Derived.Test.YtllecjhfbojgcaaSumPlain
import Derived.WalkKit
import Derived.WalkSpells
import Derived.WalkLawsBesides
import Derived.Lib.Hide
namespace Go.Proofs.Ytllecjhfbojgcaa
open Go.RowKit
set_option maxRecDepth 20000

theorem take_snoc (s : ByteArray) (k : Nat) (h : k < s.size) : s.data.toList.take (k + 1) = s.data.toList.take k ++ [s[k]] := by
  rw [List.take_succ_eq_append_getElem (by simpa using h)]; rfl

theorem take_all (s : ByteArray) (k : Nat) (h : s.size ≤ k) : s.data.toList.take k = s.data.toList := List.take_of_length_le (by simpa using h)

theorem stp_fst (x y : Nat) (c : UInt8) : ((Cl.stp (x, y) c).1 : Int) = ((x : Int) + c.toNat) % 65521 := by unfold Cl.stp; simp
theorem stp_snd (x y : Nat) (c : UInt8) : ((Cl.stp (x, y) c).2 : Int) = ((y : Int) + ((x : Int) + c.toNat) % 65521) % 65521 := by unfold Cl.stp; simp

theorem and16 (n : Nat) (hn : n < 4294967296) : bits .and .u32 (n : Int) 65535 = ((n % 65536 : Nat) : Int) := by
  rw [show (65535 : Int) = ((65535 : Nat) : Int) from rfl, u32_and_nat n 65535 hn (by omega), nat_mask16]

theorem or16 (x y : Nat) (hx : x < 65536) (hy : y < 65536) : bits .or .u64 ((y : Int) * 65536) (x : Int) % 4294967296 = ((y * 65536 + x : Nat) : Int) := by
  rw [show ((y : Int) * 65536) = ((y * 65536 : Nat) : Int) from by simp, u64_or_nat _ x (by omega) (by omega), nat_join 16 _ _ (by omega) (by omega)]
  omega

set_option maxHeartbeats 400000 in
theorem more_any (n : Nat) (s : ByteArray) (w : World) (hn : n < 4294967296) (hs : s.size ≤ maxLen) :
    Calls Try.prog 117 #[.int .u32 n, .string s] w fun e w' => e = .returned (.int .u32 (Cl.more n s.data.toList)) ∧ w = w' := by
  unfold maxLen at hs
  have hb := and16 n hn
  go_enter Try.func117, Try.ntmps117
  go_wp2
  go_loop [5, 6, 16] (fun a b i => ∃ k x y : Nat, k ≤ s.size ∧ i = .int .i64 k ∧ a = .int .u64 x ∧ b = .int .u64 y ∧ x < 65536 ∧ y < 65536 ∧ Hid (Cl.run (n % 65536, n / 65536) (s.data.toList.take k) = (x, y))) (fun _ _ i => s.size - (intOf i).toNat)
  case atStart => exact ⟨0, n % 65536, n / 65536, Nat.zero_le _, rfl, rfl, rfl, by omega, by omega, Lib.hid (by simp [Cl.run])⟩
  case round =>
    obtain ⟨k, x, y, hk, rfl, rfl, rfl, hx, hy, HR⟩ := hrel
    by_cases hlt : k < s.size
    · have hc : s[k].toNat < 256 := s[k].toNat_lt
      go_wp2
      go_round
      case rel =>
        refine ⟨k + 1, (Cl.stp (x, y) s[k]).1, (Cl.stp (x, y) s[k]).2, by omega, by go_num, ?_, ?_, ?_, ?_, ?_⟩
        · rw [stp_fst]
        · rw [stp_snd]
        · unfold Cl.stp; simp only; omega
        · unfold Cl.stp; simp only; omega
        · refine Lib.hid ?_
          rw [take_snoc s k hlt, Cl.run_snoc, HR.out]
      case measure => simp [intOf]; omega
    · go_wp2
      go_ret
      refine ⟨ret_int ?_, rfl⟩
      rw [or16 x y hx hy]
      have h := HR.out
      rw [take_all s k (by omega)] at h
      unfold Cl.more
      rw [h]

/-- All parts' bytes. -/
def cat (ss : List ByteArray) : List UInt8 := ss.flatMap (fun s => s.data.toList)
theorem cat_snoc (ss : List ByteArray) (s : ByteArray) : cat (ss ++ [s]) = cat ss ++ s.data.toList := by simp [cat]
set_option maxHeartbeats 400000 in
theorem sumof_any (b off cap : Nat) (ss : List ByteArray) (w : World) (hl : ss.length ≤ maxLen) (hz : ∀ s ∈ ss, s.size ≤ maxLen)
    (hc : ∀ i s, ss[i]? = some s → w.cell? ⟨b, off + i, none⟩ = some (.string s)) :
    Calls Try.prog 106 #[.slice (some ⟨b, off, none⟩) ss.length cap] w fun e w' => e = .returned (.int .u32 (Cl.adler (cat ss))) ∧ w = w' := by
  unfold maxLen at hl
  go_enter Try.func106, Try.ntmps106
  go_wp2
  have HC := Lib.hid hc
  clear hc
  go_loop [3, 7] (fun n i => ∃ k : Nat, k ≤ ss.length ∧ i = .int .i64 k ∧ n = .int .u32 (Cl.adler (cat (ss.take k)))) (fun _ i => ss.length - (intOf i).toNat)
  case atStart => exact ⟨0, Nat.zero_le _, rfl, by simp [cat, Cl.adler_nil]⟩
  case round =>
    obtain ⟨k, hk, rfl, rfl⟩ := hrel
    by_cases hlt : k < ss.length
    · obtain ⟨s, hs⟩ : ∃ s, ss[k]? = some s := ⟨ss[k], by simp [hlt]⟩
      have hck := HC.out k s hs
      have hsz := hz s (List.mem_of_getElem? hs)
      have HS := Lib.hid hs
      clear hs
      have hn := Cl.adler_lt (cat (ss.take k))
      go_wp2_with (go_at_call 117; refine (more_any _ s _ hn hsz).mono ?_; rintro e w' ⟨rfl, rfl⟩)
      go_round
      case rel => exact ⟨k + 1, by omega, by go_num, by rw [Cl.adler_append, ← cat_snoc, ← take_snoc_of ss k s HS.out]⟩
      case measure => simp [intOf]; omega
    · go_wp2
      go_ret
      exact ⟨ret_int (by rw [List.take_of_length_le (by omega)]), rfl⟩

set_option maxHeartbeats 400000 in
theorem sumof_nil (w : World) :
    Calls Try.prog 106 #[.slice none 0 0] w fun e w' => e = .returned (.int .u32 1) ∧ w = w' := by
  go_enter Try.func106, Try.ntmps106
  go_wp2
  go_loop [3, 7] (fun n i => i = .int .i64 0 ∧ n = .int .u32 1) (fun _ _ => 0)
  case atStart => exact ⟨rfl, rfl⟩
  case round =>
    obtain ⟨rfl, rfl⟩ := hrel
    go_wp2
    go_ret
    exact ⟨rfl, rfl⟩

set_option maxHeartbeats 400000 in
theorem sumof_empty (a : Option Addr) (c : Nat) (w : World) :
    Calls Try.prog 106 #[.slice a 0 c] w fun e w' => e = .returned (.int .u32 1) ∧ w = w' := by
  go_enter Try.func106, Try.ntmps106
  go_wp2
  go_loop [3, 7] (fun n i => i = .int .i64 0 ∧ n = .int .u32 1) (fun _ _ => 0)
  case atStart => exact ⟨rfl, rfl⟩
  case round =>
    obtain ⟨rfl, rfl⟩ := hrel
    go_wp2
    go_ret
    exact ⟨rfl, rfl⟩

set_option maxHeartbeats 400000 in
theorem refof_any (s : ByteArray) (w : World) (hs : s.size ≤ maxLen) :
    Calls Try.prog 114 #[.string s] w fun e w' => e = .returned (.int .u32 (Cl.adler s.data.toList)) ∧ w = w' := by
  unfold maxLen at hs
  go_enter Try.func114, Try.ntmps114
  go_wp2
  go_loop [3, 4, 5] (fun a b i => ∃ k x y : Nat, k ≤ s.size ∧ i = .int .i64 k ∧ a = .int .i64 x ∧ b = .int .i64 y ∧ x < 65536 ∧ y < 65536 ∧ Hid (Cl.run (1, 0) (s.data.toList.take k) = (x, y))) (fun _ _ i => s.size - (intOf i).toNat)
  case atStart => exact ⟨0, 1, 0, Nat.zero_le _, rfl, rfl, rfl, by omega, by omega, Lib.hid (by simp [Cl.run])⟩
  case round =>
    obtain ⟨k, x, y, hk, rfl, rfl, rfl, hx, hy, HR⟩ := hrel
    by_cases hlt : k < s.size
    · have hc : s[k].toNat < 256 := s[k].toNat_lt
      go_wp2
      go_round
      case rel =>
        refine ⟨k + 1, (Cl.stp (x, y) s[k]).1, (Cl.stp (x, y) s[k]).2, by omega, by go_num, ?_, ?_, ?_, ?_, ?_⟩
        · rw [stp_fst]
        · rw [stp_snd]
        · unfold Cl.stp; simp only; omega
        · unfold Cl.stp; simp only; omega
        · refine Lib.hid ?_
          rw [take_snoc s k hlt, Cl.run_snoc, HR.out]
      case measure => simp [intOf]; omega
    · go_wp2
      go_ret
      refine ⟨ret_int ?_, rfl⟩
      have h := HR.out
      rw [take_all s k (by omega)] at h
      unfold Cl.adler Cl.more
      rw [h]
      simp only
      omega

/-- The sum of one part that was just laid. -/
theorem sumof_one (s : ByteArray) (w : World) (n : Nat) (hn : n = w.heap.size) (hs : s.size ≤ maxLen) :
    Calls Try.prog 106 #[.slice (some ⟨n, 0, none⟩) 1 1] (w.alloc (.cells #[.string s] 9)) fun e w' => e = .returned (.int .u32 (Cl.adler s.data.toList)) ∧ w.alloc (.cells #[.string s] 9) = w' := by
  subst hn
  refine (sumof_any w.heap.size 0 1 [s] _ (by simp [maxLen]) (by simpa using hs) ?_).mono ?_
  · intro i x h
    rw [Nat.zero_add]
    refine cell_row w _ _ i _ ?_
    have h0 : i = 0 := by
      match i, h with
      | 0, _ => rfl
      | n + 1, h => simp at h
    subst h0
    simp at h
    simp [h]
  · rintro e w' ⟨rfl, rfl⟩
    exact ⟨by simp [cat], rfl⟩

theorem sumof_two (s t : ByteArray) (w : World) (n : Nat) (hn : n = w.heap.size) (hs : s.size ≤ maxLen) (ht : t.size ≤ maxLen) :
    Calls Try.prog 106 #[.slice (some ⟨n, 0, none⟩) 2 2] (w.alloc (.cells #[.string s, .string t] 9)) fun e w' => e = .returned (.int .u32 (Cl.adler (s.data.toList ++ t.data.toList))) ∧ w.alloc (.cells #[.string s, .string t] 9) = w' := by
  subst hn
  refine (sumof_any w.heap.size 0 2 [s, t] _ (by simp [maxLen]) (by simpa using ⟨hs, ht⟩) ?_).mono ?_
  · intro i x h
    rw [Nat.zero_add]
    refine cell_row w _ _ i _ ?_
    match i, h with
    | 0, h => simp at h; simp [h]
    | 1, h => simp at h; simp [h]
    | n + 2, h => simp at h
  · rintro e w' ⟨rfl, rfl⟩
    exact ⟨by simp [cat], rfl⟩


end Go.Proofs.Ytllecjhfbojgcaa
