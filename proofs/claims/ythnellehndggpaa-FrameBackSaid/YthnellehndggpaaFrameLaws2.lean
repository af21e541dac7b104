/-
  The walks through the statements of layer 4: FrameBack, FrameTorn.
-/
import Derived.Test.YthnellehndggpaaFrameLaws
namespace Go.Proofs.Ythnellehndggpaa
open Go.RowKit

set_option maxHeartbeats 1000000 in
theorem frameBack_out (c : UInt8) (p s : ByteArray) (w : World) (h : 70000 < p.size ∨ 20000 < s.size) :
    Calls Try.prog 12 #[.int .u8 c.toNat, .string p, .string s] w fun e w' => e = .returned (.bool true) ∧ Below w.heap.size w w' := by
  by_cases h1 : 70000 < p.size
  · have hd : decide ((70000 : Int) < p.size) = true := by simp; omega
    clear h h1
    go_enter Try.func12, Try.ntmps12
    go_wp2_with fail
    refine (fworks_any _).mono ?_
    rintro e w1 ⟨rfl, hb1⟩
    go_wp2_with fail
    go_ret
    exact ⟨rfl, hb1⟩
  · have hd : decide ((70000 : Int) < p.size) = false := by simp; omega
    have hd2 : decide ((20000 : Int) < s.size) = true := by simp; omega
    clear h h1
    go_enter Try.func12, Try.ntmps12
    go_wp2_with fail
    refine (fworks_any _).mono ?_
    rintro e w1 ⟨rfl, hb1⟩
    go_wp2_with fail
    go_ret
    exact ⟨rfl, hb1⟩

set_option maxHeartbeats 2000000 in
theorem frameBack_zero_bad (c : UInt8) (p s : ByteArray) (w : World) (hs : s.size ≤ 20000) (hc : c.toNat = 0) (hp : p.size ≤ 70000) (c2 n2 : Nat) (t2 : List UInt8) (x2 : Int) (ht : Cl.takeF s.data.toList = (c2, t2, n2, x2)) (hx : x2 ≠ 0) :
    Calls Try.prog 12 #[.int .u8 c.toNat, .string p, .string s] w fun e w' => e = .returned (.bool true) ∧ Below w.heap.size w w' := by
  have hd : decide ((70000 : Int) < p.size) = false := by simp; omega
  have hd2 : decide ((20000 : Int) < s.size) = false := by simp; omega
  have HS := Lib.hid (show s.size ≤ 1000000 by omega)
  have HS2 := Lib.hid hs
  obtain ⟨g1, g2, g3⟩ := Cl.takeF_bad s.data.toList (by rw [ht]; exact hx)
  rw [ht] at g1 g2 g3
  simp only at g1 g2 g3
  subst g1; subst g2; subst g3
  have hxb : (x2 != 0) = true := by simpa using hx
  have HT := Lib.hid ht
  clear ht hx
  clear hs
  have HC := Lib.hid hc
  have HP := Lib.hid (show p.size ≤ 140737488351232 by omega)
  clear hc hp
  go_enter Try.func12, Try.ntmps12
  go_wp2_with fail
  refine (putf_zero c p _ HC.out HP.out).mono ?_
  rintro e w1 ⟨rfl, hb1⟩
  go_wp2_with fail
  refine (takef_tells s _ _ _ _ _ HS.out HT.out).mono ?_
  rintro e w3 ⟨rfl, hb3⟩
  go_wp2_with fail
  refine (fworks_any _).mono ?_
  rintro e w4 ⟨rfl, hb4⟩
  go_wp2_with fail
  go_ret
  exact ⟨rfl, bel_trans hb1 (bel_trans hb3 hb4)⟩

set_option maxHeartbeats 2000000 in
theorem frameBack_zero_ok (c : UInt8) (p s : ByteArray) (w : World) (hs : s.size ≤ 20000) (hc : c.toNat = 0) (hp : p.size ≤ 70000) (c2 n2 : Nat) (t2 : List UInt8) (ht : Cl.takeF s.data.toList = (c2, t2, n2, 0)) :
    Calls Try.prog 12 #[.int .u8 c.toNat, .string p, .string s] w fun e w' => e = .returned (.bool true) ∧ Below w.heap.size w w' := by
  have hd : decide ((70000 : Int) < p.size) = false := by simp; omega
  have hd2 : decide ((20000 : Int) < s.size) = false := by simp; omega
  have HS := Lib.hid (show s.size ≤ 1000000 by omega)
  have HS2 := Lib.hid hs
  obtain ⟨cc, rfl, hcc, hn2, hput, ht2, hn6⟩ := Cl.takeF_ok s.data.toList _ _ _ ht
  rw [len_data] at hn2
  have hcmp : (Cl.putF cc t2 == (s.extract 0 n2).toList) = true := by
    rw [Lib.toList_data, Lib.extract_data, beq_iff_eq, ← hput]; simp
  have HT := Lib.hid ht
  have HCC := Lib.hid hcc
  have HT2 : Hid ((⟨t2.toArray⟩ : ByteArray).size ≤ 65536) := Lib.hid (by rw [size_mk]; exact ht2)
  clear ht hcc hput ht2
  clear hs
  have HC := Lib.hid hc
  have HP := Lib.hid (show p.size ≤ 140737488351232 by omega)
  clear hc hp
  go_enter Try.func12, Try.ntmps12
  go_wp2_with fail
  refine (putf_zero c p _ HC.out HP.out).mono ?_
  rintro e w1 ⟨rfl, hb1⟩
  go_wp2_with fail
  refine (takef_tells s _ _ _ _ _ HS.out HT.out).mono ?_
  rintro e w3 ⟨rfl, hb3⟩
  go_wp2_with fail
  refine (putf_ok cc ⟨t2.toArray⟩ _ HCC.out HT2.out).mono ?_
  rintro e w4 ⟨rfl, hb4⟩
  go_wp2_with fail
  refine (fworks_any _).mono ?_
  rintro e w5 ⟨rfl, hb5⟩
  go_wp2_with fail
  go_ret
  exact ⟨rfl, bel_trans hb1 (bel_trans hb3 (bel_trans hb4 hb5))⟩

set_option maxHeartbeats 2000000 in
theorem frameBack_long_bad (c : UInt8) (p s : ByteArray) (w : World) (hs : s.size ≤ 20000) (hc : c.toNat ≠ 0) (hp : p.size ≤ 70000) (hl : 65536 < p.size) (c2 n2 : Nat) (t2 : List UInt8) (x2 : Int) (ht : Cl.takeF s.data.toList = (c2, t2, n2, x2)) (hx : x2 ≠ 0) :
    Calls Try.prog 12 #[.int .u8 c.toNat, .string p, .string s] w fun e w' => e = .returned (.bool true) ∧ Below w.heap.size w w' := by
  have hd : decide ((70000 : Int) < p.size) = false := by simp; omega
  have hd2 : decide ((20000 : Int) < s.size) = false := by simp; omega
  have HS := Lib.hid (show s.size ≤ 1000000 by omega)
  have HS2 := Lib.hid hs
  obtain ⟨g1, g2, g3⟩ := Cl.takeF_bad s.data.toList (by rw [ht]; exact hx)
  rw [ht] at g1 g2 g3
  simp only at g1 g2 g3
  subst g1; subst g2; subst g3
  have hxb : (x2 != 0) = true := by simpa using hx
  have HT := Lib.hid ht
  clear ht hx
  clear hs
  have HC := Lib.hid hc
  have HP := Lib.hid (show p.size ≤ 140737488351232 by omega)
  have HL := Lib.hid hl
  clear hc hp hl
  go_enter Try.func12, Try.ntmps12
  go_wp2_with fail
  refine (putf_long c p _ HC.out HP.out HL.out).mono ?_
  rintro e w1 ⟨rfl, hb1⟩
  go_wp2_with fail
  refine (takef_tells s _ _ _ _ _ HS.out HT.out).mono ?_
  rintro e w3 ⟨rfl, hb3⟩
  go_wp2_with fail
  refine (fworks_any _).mono ?_
  rintro e w4 ⟨rfl, hb4⟩
  go_wp2_with fail
  go_ret
  exact ⟨rfl, bel_trans hb1 (bel_trans hb3 hb4)⟩

set_option maxHeartbeats 2000000 in
theorem frameBack_long_ok (c : UInt8) (p s : ByteArray) (w : World) (hs : s.size ≤ 20000) (hc : c.toNat ≠ 0) (hp : p.size ≤ 70000) (hl : 65536 < p.size) (c2 n2 : Nat) (t2 : List UInt8) (ht : Cl.takeF s.data.toList = (c2, t2, n2, 0)) :
    Calls Try.prog 12 #[.int .u8 c.toNat, .string p, .string s] w fun e w' => e = .returned (.bool true) ∧ Below w.heap.size w w' := by
  have hd : decide ((70000 : Int) < p.size) = false := by simp; omega
  have hd2 : decide ((20000 : Int) < s.size) = false := by simp; omega
  have HS := Lib.hid (show s.size ≤ 1000000 by omega)
  have HS2 := Lib.hid hs
  obtain ⟨cc, rfl, hcc, hn2, hput, ht2, hn6⟩ := Cl.takeF_ok s.data.toList _ _ _ ht
  rw [len_data] at hn2
  have hcmp : (Cl.putF cc t2 == (s.extract 0 n2).toList) = true := by
    rw [Lib.toList_data, Lib.extract_data, beq_iff_eq, ← hput]; simp
  have HT := Lib.hid ht
  have HCC := Lib.hid hcc
  have HT2 : Hid ((⟨t2.toArray⟩ : ByteArray).size ≤ 65536) := Lib.hid (by rw [size_mk]; exact ht2)
  clear ht hcc hput ht2
  clear hs
  have HC := Lib.hid hc
  have HP := Lib.hid (show p.size ≤ 140737488351232 by omega)
  have HL := Lib.hid hl
  clear hc hp hl
  go_enter Try.func12, Try.ntmps12
  go_wp2_with fail
  refine (putf_long c p _ HC.out HP.out HL.out).mono ?_
  rintro e w1 ⟨rfl, hb1⟩
  go_wp2_with fail
  refine (takef_tells s _ _ _ _ _ HS.out HT.out).mono ?_
  rintro e w3 ⟨rfl, hb3⟩
  go_wp2_with fail
  refine (putf_ok cc ⟨t2.toArray⟩ _ HCC.out HT2.out).mono ?_
  rintro e w4 ⟨rfl, hb4⟩
  go_wp2_with fail
  refine (fworks_any _).mono ?_
  rintro e w5 ⟨rfl, hb5⟩
  go_wp2_with fail
  go_ret
  exact ⟨rfl, bel_trans hb1 (bel_trans hb3 (bel_trans hb4 hb5))⟩

set_option maxHeartbeats 2000000 in
theorem frameBack_ok_bad (c : UInt8) (p s : ByteArray) (w : World) (hs : s.size ≤ 20000) (hc : c.toNat ≠ 0) (hp : p.size ≤ 65536) (c2 n2 : Nat) (t2 : List UInt8) (x2 : Int) (ht : Cl.takeF s.data.toList = (c2, t2, n2, x2)) (hx : x2 ≠ 0) :
    Calls Try.prog 12 #[.int .u8 c.toNat, .string p, .string s] w fun e w' => e = .returned (.bool true) ∧ Below w.heap.size w w' := by
  have hd : decide ((70000 : Int) < p.size) = false := by simp; omega
  have hd2 : decide ((20000 : Int) < s.size) = false := by simp; omega
  have HS := Lib.hid (show s.size ≤ 1000000 by omega)
  have HS2 := Lib.hid hs
  obtain ⟨g1, g2, g3⟩ := Cl.takeF_bad s.data.toList (by rw [ht]; exact hx)
  rw [ht] at g1 g2 g3
  simp only at g1 g2 g3
  subst g1; subst g2; subst g3
  have hxb : (x2 != 0) = true := by simpa using hx
  have HT := Lib.hid ht
  clear ht hx
  have HC := Lib.hid hc
  have HP := Lib.hid hp
  have hpl := Cl.putF_len c p.data.toList
  have hpl2 := (Cl.putText_len p.data.toList).2
  rw [len_data] at hpl2
  have HTS : Hid (((⟨(Cl.putF c p.data.toList).toArray⟩ : ByteArray) ++ s).size ≤ 1000000) := Lib.hid (by
    have := HS2.out
    rw [ByteArray.size_append, size_mk]; omega)
  have HTB : Hid (Cl.takeF ((⟨(Cl.putF c p.data.toList).toArray⟩ : ByteArray) ++ s).data.toList = (c.toNat, p.data.toList, (Cl.putF c p.data.toList).length, 0)) := Lib.hid (by
    rw [show ((⟨(Cl.putF c p.data.toList).toArray⟩ : ByteArray) ++ s).data.toList = Cl.putF c p.data.toList ++ s.data.toList from by simp]
    exact Cl.takeF_put _ _ _ hc (by rw [len_data]; exact hp))
  have hpr : (Cl.putF c p.data.toList).length ≤ 66000 := by omega
  clear hc hp hpl hpl2
  go_enter Try.func12, Try.ntmps12
  go_wp2_with fail
  refine (putf_ok c p _ HC.out HP.out).mono ?_
  rintro e w1 ⟨rfl, hb0⟩
  go_wp2_with fail
  refine (takef_tells _ _ _ _ _ _ HTS.out HTB.out).mono ?_
  rintro e w2 ⟨rfl, hb02⟩
  rw [mk_data]
  have hb1 := bel_trans hb0 hb02
  go_wp2_with fail
  refine (takef_tells s _ _ _ _ _ HS.out HT.out).mono ?_
  rintro e w3 ⟨rfl, hb3⟩
  go_wp2_with fail
  refine (fworks_any _).mono ?_
  rintro e w4 ⟨rfl, hb4⟩
  go_wp2_with fail
  go_ret
  exact ⟨rfl, bel_trans hb1 (bel_trans hb3 hb4)⟩

set_option maxHeartbeats 2000000 in
theorem frameBack_ok_ok (c : UInt8) (p s : ByteArray) (w : World) (hs : s.size ≤ 20000) (hc : c.toNat ≠ 0) (hp : p.size ≤ 65536) (c2 n2 : Nat) (t2 : List UInt8) (ht : Cl.takeF s.data.toList = (c2, t2, n2, 0)) :
    Calls Try.prog 12 #[.int .u8 c.toNat, .string p, .string s] w fun e w' => e = .returned (.bool true) ∧ Below w.heap.size w w' := by
  have hd : decide ((70000 : Int) < p.size) = false := by simp; omega
  have hd2 : decide ((20000 : Int) < s.size) = false := by simp; omega
  have HS := Lib.hid (show s.size ≤ 1000000 by omega)
  have HS2 := Lib.hid hs
  obtain ⟨cc, rfl, hcc, hn2, hput, ht2, hn6⟩ := Cl.takeF_ok s.data.toList _ _ _ ht
  rw [len_data] at hn2
  have hcmp : (Cl.putF cc t2 == (s.extract 0 n2).toList) = true := by
    rw [Lib.toList_data, Lib.extract_data, beq_iff_eq, ← hput]; simp
  have HT := Lib.hid ht
  have HCC := Lib.hid hcc
  have HT2 : Hid ((⟨t2.toArray⟩ : ByteArray).size ≤ 65536) := Lib.hid (by rw [size_mk]; exact ht2)
  clear ht hcc hput ht2
  have HC := Lib.hid hc
  have HP := Lib.hid hp
  have hpl := Cl.putF_len c p.data.toList
  have hpl2 := (Cl.putText_len p.data.toList).2
  rw [len_data] at hpl2
  have HTS : Hid (((⟨(Cl.putF c p.data.toList).toArray⟩ : ByteArray) ++ s).size ≤ 1000000) := Lib.hid (by
    have := HS2.out
    rw [ByteArray.size_append, size_mk]; omega)
  have HTB : Hid (Cl.takeF ((⟨(Cl.putF c p.data.toList).toArray⟩ : ByteArray) ++ s).data.toList = (c.toNat, p.data.toList, (Cl.putF c p.data.toList).length, 0)) := Lib.hid (by
    rw [show ((⟨(Cl.putF c p.data.toList).toArray⟩ : ByteArray) ++ s).data.toList = Cl.putF c p.data.toList ++ s.data.toList from by simp]
    exact Cl.takeF_put _ _ _ hc (by rw [len_data]; exact hp))
  have hpr : (Cl.putF c p.data.toList).length ≤ 66000 := by omega
  clear hc hp hpl hpl2
  go_enter Try.func12, Try.ntmps12
  go_wp2_with fail
  refine (putf_ok c p _ HC.out HP.out).mono ?_
  rintro e w1 ⟨rfl, hb0⟩
  go_wp2_with fail
  refine (takef_tells _ _ _ _ _ _ HTS.out HTB.out).mono ?_
  rintro e w2 ⟨rfl, hb02⟩
  rw [mk_data]
  have hb1 := bel_trans hb0 hb02
  go_wp2_with fail
  refine (takef_tells s _ _ _ _ _ HS.out HT.out).mono ?_
  rintro e w3 ⟨rfl, hb3⟩
  go_wp2_with fail
  refine (putf_ok cc ⟨t2.toArray⟩ _ HCC.out HT2.out).mono ?_
  rintro e w4 ⟨rfl, hb4⟩
  go_wp2_with fail
  refine (fworks_any _).mono ?_
  rintro e w5 ⟨rfl, hb5⟩
  go_wp2_with fail
  go_ret
  exact ⟨rfl, bel_trans hb1 (bel_trans hb3 (bel_trans hb4 hb5))⟩

theorem frameBack_walk (k : Int) (p s : ByteArray) (w0 : (Lit.int .u8 k).wf = true) (_hp : p.size ≤ 140737488351232) (_hs : s.size ≤ 140737488351232) (w : World) :
    Calls Try.prog 12 #[.int .u8 k, .string p, .string s] w fun e w' => e = .returned (.bool true) ∧ Below w.heap.size w w' := by
  obtain ⟨c, rfl⟩ := u8_of_int k w0
  by_cases hout : 70000 < p.size ∨ 20000 < s.size
  · exact frameBack_out c p s w hout
  obtain ⟨c2, t2, n2, x2, ht⟩ : ∃ c2 t2 n2 x2, Cl.takeF s.data.toList = (c2, t2, n2, x2) := ⟨_, _, _, _, rfl⟩
  by_cases hx : x2 = 0
  · subst hx
    by_cases hc : c.toNat = 0
    · exact frameBack_zero_ok c p s w (by omega) hc (by omega) c2 n2 t2 ht
    · by_cases hl : 65536 < p.size
      · exact frameBack_long_ok c p s w (by omega) hc (by omega) hl c2 n2 t2 ht
      · exact frameBack_ok_ok c p s w (by omega) hc (by omega) c2 n2 t2 ht
  · by_cases hc : c.toNat = 0
    · exact frameBack_zero_bad c p s w (by omega) hc (by omega) c2 n2 t2 x2 ht hx
    · by_cases hl : 65536 < p.size
      · exact frameBack_long_bad c p s w (by omega) hc (by omega) hl c2 n2 t2 x2 ht hx
      · exact frameBack_ok_bad c p s w (by omega) hc (by omega) c2 n2 t2 x2 ht hx

end Go.Proofs.Ythnellehndggpaa
