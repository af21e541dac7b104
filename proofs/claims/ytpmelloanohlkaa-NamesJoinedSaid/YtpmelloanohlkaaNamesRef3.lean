/-
  The walk through the reference's Turned, at a name.
-/
import Derived.Test.YtpmelloanohlkaaNamesRef2
namespace Go.Proofs.Ytpmelloanohlkaa
open Go.RowKit

theorem refname_is (s : ByteArray) (b : Bool) (w : World) (hs : s.size ≤ 1000000) (h : Cl.name s = b) :
    Calls Try.prog 17 #[.string s] w fun e w' => e = .returned (.bool b) ∧ Below w.heap.size w w' := by
  rw [← h]; exact refname_any s w hs

set_option maxHeartbeats 1000000 in
set_option maxRecDepth 100000 in
theorem refturned_ok (s : ByteArray) (w : World) (hs : s.size ≤ 1000000) (h : Cl.name s = true) :
    Calls Try.prog 19 #[.string s] w fun e w' => e = .returned (.string (Cl.turned s)) ∧ Below w.heap.size w w' := by
  have hr24 : (Cl.runes s).length ≤ 24 ∧ 0 < (Cl.runes s).length := by
    have h2 := h
    rw [Cl.name_eq] at h2
    simp only [Bool.and_eq_true, decide_eq_true_eq] at h2
    omega
  obtain ⟨h24, h0⟩ := hr24
  have HNM := Lib.hid h
  clear h
  go_enter Try.func19, Try.ntmps19
  go_wp2_with fail
  refine (runes_any s _ hs).mono ?_
  rintro e w1 ⟨lv, av, rfl, hr1, hr2, hb1⟩
  obtain ⟨a1, c1, rfl⟩ := hr1.shape
  obtain ⟨b2, o2, k2, hv2, hk2, hK2, -, hc2⟩ := hr2.some h0
  subst hv2
  have HC := Lib.hid (@ats_cell w1 b2 o2 (Cl.runes s) hc2)
  clear hr1 hr2 hc2
  obtain ⟨L, hL⟩ : ∃ L, (Cl.runes s).length = L := ⟨_, rfl⟩
  have HL := Lib.hid hL
  rw [hL] at h24 h0 hk2 ⊢
  clear hL
  go_wp2_with fail
  go_loopw [5, 6] (fun t i wr => ∃ k n : Nat, k ≤ L ∧ i = .int .i64 ((k : Int) - 1) ∧ t = .string (Cl.turn ((Cl.runes s).drop k)) ∧ wr = w1.drewN n) (fun _ i _ => (intOf i + 1).toNat)
  case atStart => exact ⟨L, 0, Nat.le_refl _, by go_num, by rw [List.drop_of_length_le (by have := HL.out; omega)]; rfl, rfl⟩
  case round =>
    obtain ⟨k, n, hk, rfl, rfl, rfl⟩ := hrel
    cases k with
    | zero =>
      rw [show ((0 : Nat) : Int) - 1 = -1 from rfl, List.drop_zero]
      have hle := turn_drop_le (Cl.runes s) 0 (by have := HL.out; omega)
      rw [List.drop_zero] at hle
      obtain ⟨tb, htb⟩ : ∃ tb, Cl.turn (Cl.runes s) = tb := ⟨_, rfl⟩
      rw [htb] at hle ⊢
      have HT := Lib.hid htb
      clear htb
      cases hn : Cl.name tb with
      | true =>
        go_wp2_with fail
        refine (refname_is tb true _ (by omega) hn).mono ?_
        rintro e w2 ⟨rfl, hb2⟩
        go_wp2_with fail
        go_ret
        refine ⟨?_, bel_trans hb1 (bel_trans (bel_drewN _ _) hb2)⟩
        unfold Cl.turned
        rw [HT.out, if_pos hn]
        rfl
      | false =>
        go_wp2_with fail
        refine (refname_is tb false _ (by omega) hn).mono ?_
        rintro e w2 ⟨rfl, hb2⟩
        go_wp2_with fail
        go_ret
        refine ⟨?_, bel_trans hb1 (bel_trans (bel_drewN _ _) hb2)⟩
        unfold Cl.turned
        rw [HT.out, if_neg (by rw [hn]; simp)]
        rfl
    | succ k =>
      rw [show ((k + 1 : Nat) : Int) - 1 = k by omega]
      obtain ⟨⟨p, r⟩, hx⟩ : ∃ x, (Cl.runes s)[k]? = some x := ⟨(Cl.runes s)[k]'(by have := HL.out; omega), by simp⟩
      have hc1 := HC.out k _ hx
      have htd := turn_drop (Cl.runes s) k _ hx
      have hle1 := turn_drop_le (Cl.runes s) (k + 1) (by have := HL.out; omega)
      have hle0 := turn_drop_le (Cl.runes s) k (by have := HL.out; omega)
      obtain ⟨tb, htb⟩ : ∃ tb, Cl.turn ((Cl.runes s).drop (k + 1)) = tb := ⟨_, rfl⟩
      rw [htb] at htd hle1 ⊢
      rw [htd] at hle0
      have HT := Lib.hid htd
      clear htd htb
      have her := encode_size_le (r : Int)
      by_cases hlt : k + 1 < L
      · obtain ⟨⟨py, ry⟩, hy⟩ : ∃ y, (Cl.runes s)[k + 1]? = some y := ⟨(Cl.runes s)[k + 1]'(by have := HL.out; omega), by simp⟩
        have hc2 := HC.out (k + 1) _ hy
        obtain ⟨hs1, hs2, hs3⟩ := slice_mid s HNM.out k p r (py, ry) hx hy
        clear hx hy
        have HS1 := Lib.hid hs1
        rw [← hs1] at her
        have HK := Lib.hid hk
        have H24 := Lib.hid h24
        have HER := Lib.hid her
        have hkb : k ≤ 23 := by omega
        clear hs1 hle0 hk h24 h0 hs HER
        have hs2' : (p : Int) ≤ (py : Int) := by omega
        have hs3' : (py : Int) ≤ (s.size : Int) := by omega
        clear hs2 hs3
        simp only at hc1 hc2 hs2' hs3'
        have hlt' : (k : Int) + 1 < (L : Int) := by omega
        have her2 : min py s.size - p ≤ 4 := by simpa using her
        clear hlt her
        go_wp2_with fail
        go_roundw
        case rel => exact ⟨k, _, by have := HK.out; omega, rfl, by rw [HT.out, ← HS1.out], rfl⟩
        case measure => simp [intOf]
      · obtain ⟨hs1, hs2⟩ := slice_end s HNM.out k p r hx (List.getElem?_eq_none (by have := HL.out; omega))
        clear hx
        have HS1 := Lib.hid hs1
        rw [← hs1] at her
        have HK := Lib.hid hk
        have H24 := Lib.hid h24
        have HER := Lib.hid her
        have hkb : k ≤ 23 := by omega
        have hlt' : ¬ ((k : Int) + 1 < (L : Int)) := by omega
        have her2 : s.size - p ≤ 4 := by simpa using her
        have hkL : k < L := by omega
        simp only at hc1
        clear her
        clear hs1 hle0 hk h24 h0 hs HER hlt
        go_wp2_with fail
        go_roundw
        case rel => exact ⟨k, _, by have := HK.out; omega, rfl, by rw [HT.out, ← HS1.out], rfl⟩
        case measure => simp [intOf]

end Go.Proofs.Ytpmelloanohlkaa
