/-
  The walk through bytes.Take.
-/
import Derived.Test.YtllecjhfbojgcaaBytesWalks
namespace Go.Proofs.Ytllecjhfbojgcaa
open Go.RowKit
set_option maxRecDepth 20000

def TakeSays (l : List UInt8) (w : World) (e : Ending) (w' : World) : Prop :=
  e = .returned (.tuple #[.int .i64 (Cl.take l).1, .int .i64 ((Cl.take l).2.1 : Nat), .int .i64 (Cl.take l).2.2]) ∧ w = w'

theorem and128 (c : UInt8) : bits .and .u8 (c.toNat : Int) 128 = if c.toNat < 128 then 0 else 128 := by
  have hc := c.toNat_lt
  rw [show (128 : Int) = ((128 : Nat) : Int) from rfl, u8_and_nat _ _ hc (by omega)]
  have h := nat_bit 7 c.toNat
  rw [show (2 : Nat) ^ 7 = 128 from rfl] at h
  rw [h]
  split <;> omega

theorem and128_no (c : UInt8) (h : c.toNat < 128) : (bits .and .u8 (c.toNat : Int) 128 != 0) = false := by
  rw [and128, if_pos h]; rfl
theorem and128_yes (c : UInt8) (h : 128 ≤ c.toNat) : (bits .and .u8 (c.toNat : Int) 128 != 0) = true := by
  rw [and128, if_neg (by omega)]; rfl

theorem andNot128 (c : UInt8) : bits .andNot .u8 (c.toNat : Int) 128 = ((c.toNat % 128 : Nat) : Int) := by
  have hc := c.toNat_lt
  rw [show (128 : Int) = ((128 : Nat) : Int) from rfl, u8_andNot_nat _ _ hc (by omega), show 255 - 128 = 127 from rfl, nat_mask7]

theorem step_num (c : UInt8) (k m q : Nat) (hk : k ≤ 9) (h9 : k = 9 → c.toNat ≤ 1) (hm : m < 128 ^ k) (hq : m + c.toNat % 128 * 128 ^ k = q) :
    bits .or .u64 (m : Int) (IntKind.u64.wrap (IntKind.u64.wrap (bits .andNot .u8 (c.toNat : Int) 128) * 2 ^ (7 * k))) = (q : Int) ∧ q < 18446744073709551616 := by
  have hp : (2 : Nat) ^ (7 * k) = 128 ^ k := by rw [Nat.pow_mul]
  have hpi : (2 : Int) ^ (7 * k) = ((128 ^ k : Nat) : Int) := by rw [← hp]; simp
  have hle : 128 ^ k ≤ 9223372036854775808 := by
    rw [← Cl.pow9]; exact Nat.pow_le_pow_right (by omega) hk
  have hle8 : k ≠ 9 → 128 ^ k ≤ 72057594037927936 := by
    intro h
    have h8 : 128 ^ k ≤ 128 ^ 8 := Nat.pow_le_pow_right (by omega) (by omega)
    rw [show (128 : Nat) ^ 8 = 72057594037927936 from by decide] at h8
    exact h8
  rw [andNot128, hpi]
  have hdiv : (c.toNat % 128 * 128 ^ k) % 2 ^ (7 * k) = 0 := by rw [hp, Nat.mul_mod_left]
  have hm2 : m < 2 ^ (7 * k) := by rw [hp]; exact hm
  generalize 128 ^ k = P at *
  have hb : c.toNat % 128 * P + P ≤ 18446744073709551616 := by
    by_cases h : k = 9
    · have h1 := h9 h
      have h2 : c.toNat % 128 ≤ 1 := by omega
      have := Nat.mul_le_mul_right P h2
      omega
    · have h2 : c.toNat % 128 ≤ 127 := by omega
      have := Nat.mul_le_mul_right P h2
      have := hle8 h
      omega
  have e1 : IntKind.u64.wrap ((c.toNat % 128 : Nat) : Int) = ((c.toNat % 128 : Nat) : Int) := IntWalk.u64_in _ (by omega)
  rw [e1, ← Int.natCast_mul]
  generalize c.toNat % 128 * P = M at *
  rw [IntWalk.u64_in _ (by omega), u64_or_nat _ _ (by omega) (by omega), Nat.or_comm, nat_join (7 * k) _ _ hdiv hm2]
  refine ⟨?_, by omega⟩
  rw [← hq, Nat.add_comm]

/-- The cases of one byte. -/
theorem take_short (l : List UInt8) (k : Nat) (h : k ≤ Cl.lead l) (hk9 : k ≤ 9) (hl : l.length ≤ k) : Cl.take l = (0, 0, 20) := by
  have := Cl.lead_le l
  unfold Cl.take
  rw [if_neg (by omega), if_pos (by omega)]

theorem take_ten (l : List UInt8) (c : UInt8) (h : 9 ≤ Cl.lead l) (hc : l[9]? = some c) (hc1 : 1 < c.toNat) : Cl.take l = (0, 0, 21) := by
  have hl : 9 < l.length := (List.getElem?_eq_some_iff.1 hc).1
  unfold Cl.take
  rw [if_pos ⟨h, hl, by rw [List.getD_eq_getElem?_getD, hc]; exact hc1⟩]

theorem take_end (l : List UInt8) (k : Nat) (c : UInt8) (h : k ≤ Cl.lead l) (hk9 : k ≤ 9) (hc : l[k]? = some c) (h9 : k = 9 → c.toNat ≤ 1) (hlt : c.toNat < 128) :
    Cl.take l = if 0 < k ∧ c.toNat = 0 then (0, 0, 21) else (Cl.unzig (Cl.dig (l.take (k + 1))), k + 1, 0) := by
  have hl : k < l.length := (List.getElem?_eq_some_iff.1 hc).1
  have e := Cl.lead_is l k c h hc hlt
  have hd : (l.getD k 0) = c := by rw [List.getD_eq_getElem?_getD, hc]; rfl
  unfold Cl.take
  rw [e, hd, if_neg, if_neg (by omega)]
  rintro ⟨h1, h2, h3⟩
  have hk : k = 9 := by omega
  subst hk
  rw [hd] at h3
  have := h9 rfl
  omega

set_option maxHeartbeats 1000000 in
theorem take_any (s : ByteArray) (w : World) :
    Calls Try.prog 85 #[.string s] w (TakeSays s.data.toList w) := by
  skip
  have hlen : s.data.toList.length = s.size := by simp
  have HL := Lib.hid hlen
  clear hlen
  go_enter Try.func85, Try.ntmps85
  go_wp2_with fail
  go_step3
  go_wp2_with fail
  go_step3
  go_wp2_with fail
  go_loop [5, 6] (fun u i => ∃ k m : Nat, k ≤ s.size ∧ k ≤ 9 ∧ i = .int .i64 k ∧ u = .int .u64 m ∧ Hid (k ≤ Cl.lead s.data.toList ∧ m = Cl.dig (s.data.toList.take k))) (fun _ i => s.size - (intOf i).toNat)
  case atStart => exact ⟨0, 0, Nat.zero_le _, by omega, rfl, rfl, Lib.hid ⟨by omega, by simp [Cl.dig]⟩⟩
  case round =>
    obtain ⟨k, m, hk, hk9, rfl, rfl, HR⟩ := hrel
    by_cases hlt : k < s.size
    · have hat : s.data.toList[k]? = some s[k] := by simp [hlt]; rfl
      generalize hc : s[k] = c at *
      have hc256 : c.toNat < 256 := c.toNat_lt
      have HC := Lib.hid hc
      have HA := Lib.hid hat
      have hml : m < 128 ^ k := by
        have := Cl.dig_lt (s.data.toList.take k)
        rw [HR.out.2]
        rw [List.length_take, HL.out, Nat.min_eq_left (by omega)] at this
        exact this
      obtain ⟨q, hq⟩ : ∃ q, m + c.toNat % 128 * 128 ^ k = q := ⟨_, rfl⟩
      have hqd : q = Cl.dig (s.data.toList.take (k + 1)) := by
        rw [take_snoc_of _ _ _ hat, Cl.dig_snoc, ← HR.out.2, List.length_take, HL.out, Nat.min_eq_left (by omega), hq]
      have HML := Lib.hid hml
      have HQ := Lib.hid hq
      have HQD := Lib.hid hqd
      clear hat hml hq hqd
      by_cases h9 : k = 9 ∧ 1 < c.toNat
      · have t1 : ((k : Int) == 9) = true := by simp; omega
        have t2 : decide ((1 : Int) < c.toNat) = true := by simp; omega
        have hfin : Cl.take s.data.toList = (0, 0, 21) := by
          obtain ⟨rfl, h1⟩ := h9
          exact take_ten _ c HR.out.1 HA.out h1
        have HF := Lib.hid hfin
        clear hfin h9
        go_wp2_with fail
        go_ret3
        unfold TakeSays
        rw [HF.out]
        exact ⟨rfl, rfl⟩
      · have h91 : k = 9 → c.toNat ≤ 1 := by omega
        obtain ⟨hnum, hq64⟩ := step_num c k m q hk9 h91 HML.out HQ.out
        have HQ64 := Lib.hid hq64
        clear hq64
        by_cases hbig : 128 ≤ c.toNat
        · have t1 : ((k : Int) == 9) = false := by simp; omega
          have t3 := and128_yes c hbig
          have hk8 : k + 1 ≤ 9 := by omega
          have hnext := Cl.lead_step _ k c HR.out.1 HA.out hbig
          have HN := Lib.hid hnext
          clear hnext h9 h91 hbig
          go_wp2_with fail
          go_round
          case rel => exact ⟨k + 1, q, by omega, hk8, by go_num, rfl, Lib.hid ⟨HN.out, HQD.out⟩⟩
          case measure => simp [intOf]; omega
        · have t3 := and128_no c (by omega)
          have hend := take_end _ k c HR.out.1 hk9 HA.out h91 (by omega)
          by_cases hz : 0 < k ∧ c.toNat = 0
          · rw [if_pos hz] at hend
            have HF := Lib.hid hend
            have t4 : ((c.toNat : Int) == 0) = true := by simp; omega
            have t5 : decide ((1 : Int) < (k : Int) + 1) = true := by simp; omega
            clear hend hz h9 hbig
            by_cases hk9' : k = 9
            · have t1 : ((k : Int) == 9) = true := by simp; omega
              have t2 : decide ((1 : Int) < c.toNat) = false := by simp; omega
              clear h91 hk9'
              go_wp2_with fail
              go_ret3
              unfold TakeSays
              rw [HF.out]
              exact ⟨rfl, rfl⟩
            · have t1 : ((k : Int) == 9) = false := by simp; omega
              clear h91 hk9'
              go_wp2_with fail
              go_ret3
              unfold TakeSays
              rw [HF.out]
              exact ⟨rfl, rfl⟩
          · rw [if_neg hz] at hend
            have HF := Lib.hid hend
            clear hend
            by_cases hc0 : c.toNat = 0
            · have t4 : ((c.toNat : Int) == 0) = true := by simp; omega
              have t5 : decide ((1 : Int) < (k : Int) + 1) = false := by simp; omega
              have t1 : ((k : Int) == 9) = false := by simp; omega
              clear h91 hz h9 hbig hc0
              go_wp2_with fail
              refine (back_any q _ (by have := HQ64.out; omega)).mono ?_
              rintro e w' ⟨rfl, rfl⟩
              go_wp2_with fail
              go_ret3
              unfold TakeSays
              rw [HF.out, HQD.out]
              exact ⟨rfl, rfl⟩
            · have t4 : ((c.toNat : Int) == 0) = false := by simp; omega
              clear hz h9 hbig hc0
              by_cases hk9' : k = 9
              · have t1 : ((k : Int) == 9) = true := by simp; omega
                have t2 : decide ((1 : Int) < c.toNat) = false := by simp; omega
                clear h91 hk9'
                go_wp2_with fail
                refine (back_any q _ (by have := HQ64.out; omega)).mono ?_
                rintro e w' ⟨rfl, rfl⟩
                go_wp2_with fail
                go_ret3
                unfold TakeSays
                rw [HF.out, HQD.out]
                exact ⟨rfl, rfl⟩
              · have t1 : ((k : Int) == 9) = false := by simp; omega
                clear h91 hk9'
                go_wp2_with fail
                refine (back_any q _ (by have := HQ64.out; omega)).mono ?_
                rintro e w' ⟨rfl, rfl⟩
                go_wp2_with fail
                go_ret3
                unfold TakeSays
                rw [HF.out, HQD.out]
                exact ⟨rfl, rfl⟩
    · have hfin := take_short s.data.toList k HR.out.1 hk9 (by rw [HL.out]; omega)
      have HF := Lib.hid hfin
      clear hfin
      go_wp2_with fail
      go_ret3
      unfold TakeSays
      rw [HF.out]
      exact ⟨rfl, rfl⟩

end Go.Proofs.Ytllecjhfbojgcaa
