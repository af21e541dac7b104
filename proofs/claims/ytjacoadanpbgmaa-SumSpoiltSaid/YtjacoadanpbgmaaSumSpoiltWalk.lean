/-
  The walk through the statement SumSpoilt.
-/
import Derived.Test.YtjacoadanpbgmaaSumWorks
import Derived.Test.YtjacoadanpbgmaaBytesConv
namespace Go.Proofs.Ytjacoadanpbgmaa
open Go.RowKit

theorem set_split (l : List UInt8) (k : Nat) (c : UInt8) (h : k < l.length) : l.set k c = l.take k ++ c :: l.drop (k + 1) ∧ l = l.take k ++ l[k] :: l.drop (k + 1) := by
  refine ⟨?_, ?_⟩
  · rw [List.set_eq_take_append_cons_drop, if_pos h]
  · simp

theorem spoilt (s : ByteArray) (k : Nat) (hk : k < s.size) (d : UInt8) : (((Cl.adler (s.data.toList.set k (s[k] ^^^ d)) : Int) == (Cl.adler s.data.toList : Int)) == ((d.toNat : Int) == 0)) = true := by
  obtain ⟨e1, e2⟩ := set_split s.data.toList k (s[k] ^^^ d) (by simpa using hk)
  have e3 : s.data.toList[k]'(by simpa using hk) = s[k] := rfl
  rw [e3] at e2
  have h := Cl.adler_spoilt (s.data.toList.take k) (s.data.toList.drop (k + 1)) (s[k] ^^^ d) s[k]
  rw [← e1, ← e2] at h
  have hd : s[k] ^^^ d = s[k] ↔ d = 0 := by
    constructor
    · intro h
      have : s[k] ^^^ (s[k] ^^^ d) = s[k] ^^^ s[k] := by rw [h]
      simpa [← UInt8.xor_assoc] using this
    · rintro rfl; simp
  rw [hd] at h
  by_cases h0 : d = 0
  · have ha := h.2 h0
    rw [ha, h0]; simp
  · have hn : d.toNat ≠ 0 := fun e => h0 (UInt8.toNat_inj.1 (by simpa using e))
    have ha : Cl.adler (s.data.toList.set k (s[k] ^^^ d)) ≠ Cl.adler s.data.toList := fun e => h0 (h.1 e)
    have e1 : ((Cl.adler (s.data.toList.set k (s[k] ^^^ d)) : Int) == (Cl.adler s.data.toList : Int)) = false := by
      rw [beq_eq_false_iff_ne]; intro e; exact ha (by omega)
    have e2 : ((d.toNat : Int) == 0) = false := by simpa using hn
    rw [e1, e2]; rfl

set_option maxHeartbeats 1000000 in
theorem sumSpoilt_out (a : ByteArray) (at_ : Int) (by_ : Int) (ha : a.size ≤ 140737488351232) (w : World) (hout : 100000 < a.size ∨ at_ < 0 ∨ (a.size : Int) ≤ at_) :
    Calls Try.prog 4 #[.string a, .int .i64 at_, .int .u8 by_] w fun e w' => e = .returned (.bool true) ∧ Below w.heap.size w w' := by
  by_cases h1 : 100000 < a.size
  · go_enter Try.func4, Try.ntmps4
    go_wp2_with fail
    refine (sumworks_any _).mono ?_
    rintro e w1 ⟨rfl, h1⟩
    go_wp2_with fail
    go_ret
    exact ⟨rfl, h1⟩
  · by_cases h2 : at_ < 0
    · clear hout
      go_enter Try.func4, Try.ntmps4
      go_wp2_with fail
      refine (sumworks_any _).mono ?_
      rintro e w1 ⟨rfl, h1⟩
      go_wp2_with fail
      go_ret
      exact ⟨rfl, h1⟩
    · have h3 : (a.size : Int) ≤ at_ := by omega
      have h4 : decide ((a.size : Int) ≤ at_) = true := by simpa using h3
      clear hout
      go_enter Try.func4, Try.ntmps4
      go_wp2_with fail
      refine (sumworks_any _).mono ?_
      rintro e w1 ⟨rfl, h1⟩
      go_wp2_with fail
      go_ret
      exact ⟨rfl, h1⟩

set_option maxHeartbeats 1000000 in
theorem sumSpoilt_in (a : ByteArray) (k : Nat) (d : UInt8) (hs : a.size ≤ 100000) (hk : k < a.size) (w : World) :
    Calls Try.prog 4 #[.string a, .int .i64 k, .int .u8 d.toNat] w fun e w' => e = .returned (.bool true) ∧ Below w.heap.size w w' := by
  have hl : ((100000 : Int) < a.size) = False := by simp; omega
  obtain ⟨c, w1, hb, hc, hf, hbl, hz⟩ := bytes_of_string Try.prog w 9 28 5 a Try.underlying9 Try.underlying28 Try.underlying5
  have hck := hc k hk
  have hfk := hf k hk
  have hx := xor_u8 a[k] d
  rw [UInt8.toNat_xor] at hx
  have hb2 := string_of_bytes Try.prog (w1.setCell ⟨w.heap.size, k, none⟩ (.int .u8 ((a[k].toNat ^^^ d.toNat : Nat) : Int))) 28 9 5 w.heap.size 0 c a.size (a.data.toList.set k (a[k] ^^^ d)) (by simp) Try.underlying28 Try.underlying5 Try.underlying9 (by
    intro j hj
    have hj' : j < a.size := by simpa using hj
    rw [Nat.zero_add]
    by_cases e : j = k
    · subst e
      rw [World.cell?_setCell_same _ _ _ hck]
      simp
    · rw [World.cell?_setCell_other _ _ _ _ (by simp only [ne_eq, Addr.mk.injEq]; omega), hc j hj', List.getElem_set_ne (by omega)]
      rfl)
  have hbl2 : Below w.heap.size w (w1.setCell ⟨w.heap.size, k, none⟩ (.int .u8 ((a[k].toNat ^^^ d.toNat : Nat) : Int))) := hbl.setCell (Nat.le_refl _) _
  have hz2 : w.heap.size ≤ w1.heap.size := by omega
  have HC := Lib.hid hc
  have HF := Lib.hid hf
  have HZ := Lib.hid hz
  clear hc hf hz
  have HP := Lib.hid (spoilt a k hk d)
  go_enter Try.func4, Try.ntmps4
  go_wp2_with fail
  refine (sumof_one _ _ _ (by simp) (by rw [size_mk, List.length_set, len_data]; unfold maxLen; omega)).mono ?_
  rintro e w3 ⟨rfl, rfl⟩
  go_wp2_with fail
  refine (sumof_one a _ _ (by simp) (by unfold maxLen; omega)).mono ?_
  rintro e w3 ⟨rfl, rfl⟩
  have HP2 := HP.out
  go_wp2_with fail
  refine (sumworks_any _).mono ?_
  rintro e w3 ⟨rfl, h1⟩
  go_wp2_with fail
  go_ret
  exact ⟨rfl, ((hbl2.alloc (by simp; omega) _).alloc (by simp; omega) _).trans (h1.mono (by simp; omega))⟩

theorem sumSpoilt_walk (a : ByteArray) (at_ : Int) (by_ : Int) (ha : a.size ≤ 140737488351232) (w1 : (Lit.int .i64 at_).wf = true) (w2 : (Lit.int .u8 by_).wf = true) (w : World) :
    Calls Try.prog 4 #[.string a, .int .i64 at_, .int .u8 by_] w fun e w' => e = .returned (.bool true) ∧ Below w.heap.size w w' := by
  by_cases hout : 100000 < a.size ∨ at_ < 0 ∨ (a.size : Int) ≤ at_
  · exact sumSpoilt_out a at_ by_ ha w hout
  · obtain ⟨k, rfl⟩ : ∃ k : Nat, at_ = k := ⟨at_.toNat, by omega⟩
    obtain ⟨d, rfl⟩ := u8_of_int by_ w2
    exact sumSpoilt_in a k d (by omega) (by omega) w
end Go.Proofs.Ytjacoadanpbgmaa
