/-
  The walks through the statements of layer 2: BytesTakes, BytesTexts, BytesKnown, BytesBack.
-/
import Derived.Test.YthnellehndggpaaBytesLaws
namespace Go.Proofs.Ythnellehndggpaa
open Go.RowKit

theorem taketext_says (s : ByteArray) (t : List UInt8) (k : Nat) (x : Int) (w : World) (hs : s.size ≤ 1000000) (h : Cl.takeText s.data.toList = (t, k, x)) :
    Calls Try.prog 26 #[.string s] w fun e w' => e = .returned (.tuple #[.string ⟨t.toArray⟩, .int .i64 k, .int .i64 x]) ∧ w = w' := by
  refine (taketext_any s w hs).mono fun e w' ht => ?_
  unfold TextSays at ht
  rw [h] at ht
  exact ht

theorem reftaketext_says (s : ByteArray) (t : List UInt8) (k : Nat) (x : Int) (w : World) (hs : s.size ≤ 1000000) (h : Cl.takeText s.data.toList = (t, k, x)) :
    Calls Try.prog 27 #[.string s] w fun e w' => e = .returned (.tuple #[.string ⟨t.toArray⟩, .int .i64 k, .int .i64 x]) ∧ w = w' := by
  refine (reftaketext_any s w hs).mono fun e w' ht => ?_
  unfold TextSays at ht
  rw [h] at ht
  exact ht

theorem puttext_ok (s : ByteArray) (w : World) (hs : s.size ≤ 65536) :
    Calls Try.prog 28 #[.string s] w fun e w' => e = .returned (.tuple #[.string ⟨(Cl.putText s.data.toList).toArray⟩, .int .i64 0]) ∧ Below w.heap.size w w' :=
  (puttext_any s w (by omega)).mono fun e w' h => ⟨h.2.1 (by rw [len_data]; exact hs), h.2.2⟩
theorem puttext_long (s : ByteArray) (w : World) (hs : s.size ≤ 140737488351232) (hb : 65536 < s.size) :
    Calls Try.prog 28 #[.string s] w fun e w' => e = .returned (.tuple #[.string ⟨#[]⟩, .int .i64 3]) ∧ Below w.heap.size w w' :=
  (puttext_any s w hs).mono fun e w' h => ⟨h.1 (by rw [len_data]; exact hb), h.2.2⟩
theorem refputtext_ok (s : ByteArray) (w : World) (hs : s.size ≤ 65536) :
    Calls Try.prog 29 #[.string s] w fun e w' => e = .returned (.tuple #[.string ⟨(Cl.putText s.data.toList).toArray⟩, .int .i64 0]) ∧ Below w.heap.size w w' :=
  (refputtext_any s w (by omega)).mono fun e w' h => ⟨h.2.1 (by rw [len_data]; exact hs), h.2.2⟩
theorem refputtext_long (s : ByteArray) (w : World) (hs : s.size ≤ 140737488351232) (hb : 65536 < s.size) :
    Calls Try.prog 29 #[.string s] w fun e w' => e = .returned (.tuple #[.string ⟨#[]⟩, .int .i64 3]) ∧ Below w.heap.size w w' :=
  (refputtext_any s w hs).mono fun e w' h => ⟨h.1 (by rw [len_data]; exact hb), h.2.2⟩

set_option maxHeartbeats 1000000 in
theorem bytesTakes_walk (s : ByteArray) (_hs : s.size ≤ 140737488351232) (w : World) :
    Calls Try.prog 6 #[.string s] w fun e w' => e = .returned (.bool true) ∧ Below w.heap.size w w' := by
  by_cases hlen : 10000 < s.size
  · have hd : decide ((10000 : Int) < s.size) = true := by simp; omega
    clear hlen _hs
    go_enter Try.func6, Try.ntmps6
    go_wp2_with fail
    refine (bworks_any _).mono ?_
    rintro e w1 ⟨rfl, hb1⟩
    go_wp2_with fail
    go_ret
    exact ⟨rfl, hb1⟩
  · have hd : decide ((10000 : Int) < s.size) = false := by simp; omega
    obtain ⟨n, k, x, hnk⟩ : ∃ n k x, Cl.take s.data.toList = (n, k, x) := ⟨_, _, _, rfl⟩
    obtain ⟨r, y, hr⟩ : ∃ r y, Cl.nums s.data.toList = (r, y) := ⟨_, _, rfl⟩
    obtain ⟨t, j, z, ht⟩ : ∃ t j z, Cl.takeText s.data.toList = (t, j, z) := ⟨_, _, _, rfl⟩
    have hsz : s.size ≤ 1000000 := by omega
    have HT := Lib.hid hnk
    have HR := Lib.hid hr
    have HX := Lib.hid ht
    have HS := Lib.hid hsz
    clear hnk hr ht hsz hlen _hs
    go_enter Try.func6, Try.ntmps6
    go_wp2_with fail
    refine (take_says s n k x _ HT.out).mono ?_
    rintro e w' ⟨rfl, rfl⟩
    go_wp2_with fail
    refine (reftake_says s n k x _ HT.out).mono ?_
    rintro e w' ⟨rfl, rfl⟩
    go_wp2_with fail
    refine (numbers_says s r y _ HS.out HR.out).mono ?_
    rintro e w1 ⟨v1, rfl, hr1, hb1⟩
    go_wp2_with fail
    refine (refnumbers_says s r y _ HS.out HR.out).mono ?_
    rintro e w2 ⟨v2, rfl, hr2, hb2⟩
    go_wp2_with fail
    refine (eqInts64_any _ _ r r _ (hr1.below hb2) hr2).mono ?_
    rintro e w' ⟨rfl, n1, rfl⟩
    clear hr1 hr2
    go_wp2_with fail
    refine (taketext_says s t j z _ HS.out HX.out).mono ?_
    rintro e w' ⟨rfl, rfl⟩
    go_wp2_with fail
    refine (reftaketext_says s t j z _ HS.out HX.out).mono ?_
    rintro e w' ⟨rfl, rfl⟩
    go_wp2_with fail
    refine (bworks_any _).mono ?_
    rintro e w3 ⟨rfl, hb3⟩
    go_wp2_with fail
    go_ret
    exact ⟨rfl, bel_trans hb1 (bel_trans hb2 (bel_trans (bel_drewN _ _) hb3))⟩

set_option maxHeartbeats 1000000 in
theorem bytesTexts_walk (s : ByteArray) (hs : s.size ≤ 140737488351232) (w : World) :
    Calls Try.prog 7 #[.string s] w fun e w' => e = .returned (.bool true) ∧ Below w.heap.size w w' := by
  by_cases hlen : 70000 < s.size
  · have hd : decide ((70000 : Int) < s.size) = true := by simp; omega
    clear hlen hs
    go_enter Try.func7, Try.ntmps7
    go_wp2_with fail
    refine (bworks_any _).mono ?_
    rintro e w1 ⟨rfl, hb1⟩
    go_wp2_with fail
    go_ret
    exact ⟨rfl, hb1⟩
  · have hd : decide ((70000 : Int) < s.size) = false := by simp; omega
    have HS := Lib.hid hs
    clear hlen hs
    by_cases hbig : 65536 < s.size
    · have HB := Lib.hid hbig
      clear hbig
      go_enter Try.func7, Try.ntmps7
      go_wp2_with fail
      refine (puttext_long s _ HS.out HB.out).mono ?_
      rintro e w1 ⟨rfl, hb1⟩
      go_wp2_with fail
      refine (refputtext_long s _ HS.out HB.out).mono ?_
      rintro e w2 ⟨rfl, hb2⟩
      go_wp2_with fail
      refine (bworks_any _).mono ?_
      rintro e w3 ⟨rfl, hb3⟩
      go_wp2_with fail
      go_ret
      exact ⟨rfl, bel_trans hb1 (bel_trans hb2 hb3)⟩
    · have hsm : s.size ≤ 65536 := by omega
      have HB := Lib.hid hsm
      clear hbig hsm
      go_enter Try.func7, Try.ntmps7
      go_wp2_with fail
      refine (puttext_ok s _ HB.out).mono ?_
      rintro e w1 ⟨rfl, hb1⟩
      go_wp2_with fail
      refine (refputtext_ok s _ HB.out).mono ?_
      rintro e w2 ⟨rfl, hb2⟩
      go_wp2_with fail
      refine (bworks_any _).mono ?_
      rintro e w3 ⟨rfl, hb3⟩
      go_wp2_with fail
      go_ret
      exact ⟨rfl, bel_trans hb1 (bel_trans hb2 hb3)⟩

theorem k_put0 : Cl.put [0] = [0] := by decide
theorem k_take1 : Cl.take [128, 0] = (0, 0, 21) := by decide
theorem k_take2 : Cl.take [128] = (0, 0, 20) := by decide
theorem k_text : Cl.putText [97, 98] = [4, 97, 98] := by decide
theorem k_back : Cl.takeText [4, 97, 98, 99] = ([97, 98], 3, 0) := by decide

set_option maxHeartbeats 1000000 in
theorem bytesKnown_walk (w : World) :
    Calls Try.prog 8 #[] w fun e w' => e = .returned (.bool true) ∧ Below w.heap.size w w' := by
  go_enter Try.func8, Try.ntmps8
  go_wp2_with fail
  refine (take_says ⟨#[128, 0]⟩ _ _ _ _ k_take1).mono ?_
  rintro e w' ⟨rfl, rfl⟩
  go_wp2_with fail
  refine (take_says ⟨#[128]⟩ _ _ _ _ k_take2).mono ?_
  rintro e w' ⟨rfl, rfl⟩
  go_wp2_with fail
  refine (puttext_ok ⟨#[97, 98]⟩ _ (by decide)).mono ?_
  rintro e w1 ⟨rfl, hb1⟩
  rw [show (⟨#[97, 98]⟩ : ByteArray).data.toList = [97, 98] from rfl, k_text]
  go_wp2_with fail
  refine (taketext_says ⟨#[4, 97, 98, 99]⟩ _ _ _ _ (by decide) k_back).mono ?_
  rintro e w' ⟨rfl, rfl⟩
  go_wp2_with fail
  refine (bworks_any _).mono ?_
  rintro e w2 ⟨rfl, hb2⟩
  go_wp2_with fail
  refine (put_one_any 0 _ _ (by simp) (by constructor <;> omega)).mono ?_
  rintro e w3 ⟨rfl, hb3⟩
  rw [← Cl.put_one, k_put0]
  go_wp2_with fail
  go_ret
  exact ⟨rfl, bel_trans hb1 (bel_trans hb2 hb3)⟩

set_option maxHeartbeats 1000000 in
theorem bytesBack_out (v : Value) (ns : List Int) (s bh : ByteArray) (w : World) (hr : Reads w v ns.length (ints ns)) (h : 1000 < ns.length ∨ 10000 < s.size ∨ 1000 < bh.size) :
    Calls Try.prog 9 #[v, .string s, .string bh] w fun e w' => e = .returned (.bool true) ∧ Below w.heap.size w w' := by
  obtain ⟨a, c, rfl⟩ := hr.shape
  clear hr
  by_cases h1 : 1000 < ns.length
  · have hd1 : decide ((1000 : Int) < ns.length) = true := by simp; omega
    clear h h1
    go_enter Try.func9, Try.ntmps9
    go_wp2_with fail
    refine (bworks_any _).mono ?_
    rintro e w1 ⟨rfl, hb1⟩
    go_wp2_with fail
    go_ret
    exact ⟨rfl, hb1⟩
  · have hd1 : decide ((1000 : Int) < ns.length) = false := by simp; omega
    by_cases h2 : 10000 < s.size
    · have hd2 : decide ((10000 : Int) < s.size) = true := by simp; omega
      clear h h1 h2
      go_enter Try.func9, Try.ntmps9
      go_wp2_with fail
      refine (bworks_any _).mono ?_
      rintro e w1 ⟨rfl, hb1⟩
      go_wp2_with fail
      go_ret
      exact ⟨rfl, hb1⟩
    · have hd2 : decide ((10000 : Int) < s.size) = false := by simp; omega
      have hd3 : decide ((1000 : Int) < bh.size) = true := by simp; omega
      clear h h1 h2
      go_enter Try.func9, Try.ntmps9
      go_wp2_with fail
      refine (bworks_any _).mono ?_
      rintro e w1 ⟨rfl, hb1⟩
      go_wp2_with fail
      go_ret
      exact ⟨rfl, hb1⟩

set_option maxHeartbeats 2000000 in
theorem bytesBack_walk (v : Value) (ns : List Int) (s bh : ByteArray) (w : World) (hr : Reads w v ns.length (ints ns)) (hi : ∀ n ∈ ns, Cl.In64 n) (_hs : s.size ≤ 140737488351232) (_hbh : bh.size ≤ 140737488351232) :
    Calls Try.prog 9 #[v, .string s, .string bh] w fun e w' => e = .returned (.bool true) ∧ Below w.heap.size w w' := by
  by_cases hout : 1000 < ns.length ∨ 10000 < s.size ∨ 1000 < bh.size
  · exact bytesBack_out v ns s bh w hr hout
  · obtain ⟨a, c, rfl⟩ := hr.shape
    have hd1 : decide ((1000 : Int) < ns.length) = false := by simp; omega
    have hd2 : decide ((10000 : Int) < s.size) = false := by simp; omega
    have hd3 : decide ((1000 : Int) < bh.size) = false := by simp; omega
    have hn : ns.length ≤ 1000 := by omega
    have hbhs : bh.size ≤ 1000 := by omega
    have HRD := Lib.hid hr
    have HI := Lib.hid hi
    have HS := Lib.hid (show s.size ≤ 1000000 by omega)
    have HS2 := Lib.hid (show s.size ≤ 10000 by omega)
    have HPL := Lib.hid (show (Cl.put ns).length ≤ 10000 by have := Cl.put_len ns; omega)
    have HNP := Lib.hid (Cl.nums_put ns hi)
    obtain ⟨r, y, hry⟩ : ∃ r y, Cl.nums s.data.toList = (r, y) := ⟨_, _, rfl⟩
    have HR := Lib.hid hry
    have HPT := Lib.hid (show (Cl.putText s.data.toList).length ≤ 10010 by
      unfold Cl.putText
      rw [List.length_append, len_data]
      have := (Cl.vint_len (Cl.zig s.size)).2
      omega)
    have HTB : Hid (Cl.takeText ((⟨(Cl.putText s.data.toList).toArray⟩ : ByteArray) ++ bh).data.toList = (s.data.toList, (Cl.putText s.data.toList).length, 0)) := Lib.hid (by
      rw [show ((⟨(Cl.putText s.data.toList).toArray⟩ : ByteArray) ++ bh).data.toList = Cl.putText s.data.toList ++ bh.data.toList from by simp]
      exact Cl.takeText_put _ _ (by rw [len_data]; omega))
    have HTS : Hid (((⟨(Cl.putText s.data.toList).toArray⟩ : ByteArray) ++ bh).size ≤ 1000000) := Lib.hid (by
      rw [ByteArray.size_append, size_mk]; have := HPT.out; omega)
    have HPTS := Lib.hid (size_mk (Cl.putText s.data.toList))
    have hrl : Cl.nums s.data.toList = (r, 0) → r.length ≤ 1000000 := by
      intro h
      have := Cl.numsA_len (s.data.toList.length + 1) s.data.toList []
      unfold Cl.nums at h
      rw [h, len_data] at this
      simp at this
      omega
    have hin := fun (h : Cl.nums s.data.toList = (r, 0)) => Cl.nums_back _ _ h
    have HRL := Lib.hid hrl
    have HIN := Lib.hid hin
    have hptl := HPT.out
    clear hr hi hry _hs _hbh hout hrl hin
    by_cases hy : y = 0
    · subst hy
      obtain ⟨hp, hrin⟩ := HIN.out HR.out
      have HP := Lib.hid hp
      have HRI := Lib.hid hrin
      have hrlen := HRL.out HR.out
      have HRLEN := Lib.hid hrlen
      clear hp hrin hrlen
      go_enter Try.func9, Try.ntmps9
      go_wp2_with fail
      refine (putR_any _ ns _ HRD.out (by omega) HI.out).mono ?_
      rintro e w1 ⟨rfl, hb1⟩
      go_wp2_with fail
      refine (numbers_says ⟨(Cl.put ns).toArray⟩ ns 0 _ (by rw [size_mk]; have := HPL.out; omega) HNP.out).mono ?_
      rintro e w2 ⟨v2, rfl, hr2, hb2⟩
      go_wp2_with fail
      refine (eqInts64_any _ _ ns ns _ hr2 ((HRD.out.below hb1).below hb2)).mono ?_
      rintro e w' ⟨rfl, n1, rfl⟩
      clear hr2
      go_wp2_with fail
      refine (numbers_says s r _ _ HS.out HR.out).mono ?_
      rintro e w3 ⟨v3, rfl, hr3, hb3⟩
      obtain ⟨a3, c3, rfl⟩ := hr3.shape
      go_wp2_with fail
      refine (putR_any _ r _ hr3 HRLEN.out HRI.out).mono ?_
      rintro e w4 ⟨rfl, hb4⟩
      rw [HP.out, mk_data]
      clear hr3
      go_wp2_with fail
      refine (puttext_ok s _ (by have := HS2.out; omega)).mono ?_
      rintro e w5 ⟨rfl, hb5⟩
      go_wp2_with fail
      refine (taketext_says _ _ _ _ _ HTS.out HTB.out).mono ?_
      rintro e w' ⟨rfl, rfl⟩
      rw [mk_data]
      go_wp2_with fail
      refine (bworks_any _).mono ?_
      rintro e w6 ⟨rfl, hb6⟩
      go_wp2_with fail
      go_ret
      exact ⟨rfl, bel_trans hb1 (bel_trans hb2 (bel_trans (bel_drewN _ _) (bel_trans hb3 (bel_trans hb4 (bel_trans hb5 hb6)))))⟩
    · have hyb : (y == 0) = false := by simpa using hy
      clear hy
      go_enter Try.func9, Try.ntmps9
      go_wp2_with fail
      refine (putR_any _ ns _ HRD.out (by omega) HI.out).mono ?_
      rintro e w1 ⟨rfl, hb1⟩
      go_wp2_with fail
      refine (numbers_says ⟨(Cl.put ns).toArray⟩ ns 0 _ (by rw [size_mk]; have := HPL.out; omega) HNP.out).mono ?_
      rintro e w2 ⟨v2, rfl, hr2, hb2⟩
      go_wp2_with fail
      refine (eqInts64_any _ _ ns ns _ hr2 ((HRD.out.below hb1).below hb2)).mono ?_
      rintro e w' ⟨rfl, n1, rfl⟩
      clear hr2
      go_wp2_with fail
      refine (numbers_says s r _ _ HS.out HR.out).mono ?_
      rintro e w3 ⟨v3, rfl, hr3, hb3⟩
      obtain ⟨a3, c3, rfl⟩ := hr3.shape
      clear hr3
      go_wp2_with fail
      refine (puttext_ok s _ (by have := HS2.out; omega)).mono ?_
      rintro e w5 ⟨rfl, hb5⟩
      go_wp2_with fail
      refine (taketext_says _ _ _ _ _ HTS.out HTB.out).mono ?_
      rintro e w' ⟨rfl, rfl⟩
      rw [mk_data]
      go_wp2_with fail
      refine (bworks_any _).mono ?_
      rintro e w6 ⟨rfl, hb6⟩
      go_wp2_with fail
      go_ret
      exact ⟨rfl, bel_trans hb1 (bel_trans hb2 (bel_trans (bel_drewN _ _) (bel_trans hb3 (bel_trans hb5 hb6))))⟩

end Go.Proofs.Ythnellehndggpaa
