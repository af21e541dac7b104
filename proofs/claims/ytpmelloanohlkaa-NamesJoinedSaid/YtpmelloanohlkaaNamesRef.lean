/-
  The walk through the reference's Name.
-/
import Derived.Test.YtpmelloanohlkaaNamesAts
namespace Go.Proofs.Ytpmelloanohlkaa
open Go.RowKit

namespace Cl
theorem later_not (r : Int) (h : letter r = false) : later r = (decide (48 ≤ r ∧ r ≤ 57) || decide (r = 45)) := by simp [later, h]
theorem later_yes (r : Int) (h : letter r = true) : later r = true := by simp [later, h]
end Cl

theorem all_snoc (l : List (Nat × Nat)) (k : Nat) (x : Nat × Nat) (hx : l[k]? = some x) (h : (l.take k).all (fun x => Cl.later x.2) = true) (hl : Cl.later x.2 = true) : (l.take (k + 1)).all (fun x => Cl.later x.2) = true := by
  rw [take_snoc_of l k x hx, List.all_append, h]; simp [hl]
theorem all_bad (l : List (Nat × Nat)) (k : Nat) (x : Nat × Nat) (hx : l[k]? = some x) (hl : Cl.later x.2 = false) : l.all (fun x => Cl.later x.2) = false := by
  rw [List.all_eq_false]
  exact ⟨x, List.mem_of_getElem? hx, by simp [hl]⟩
theorem name_of (s : ByteArray) (x : Nat × Nat) (h0 : (Cl.runes s)[0]? = some x) (h24 : (Cl.runes s).length ≤ 24) : Cl.name s = (Cl.letter x.2 && (Cl.runes s).all (fun x => Cl.later x.2)) := by
  unfold Cl.name
  cases hr : Cl.runes s with
  | nil => rw [hr] at h0; simp at h0
  | cons y ys =>
    rw [hr] at h0 h24
    simp at h0
    subst h0
    simp only [List.length_cons] at h24
    simp [h24]

set_option maxHeartbeats 2000000 in
theorem refname_any (s : ByteArray) (w : World) (hs : s.size ≤ 1000000) :
    Calls Try.prog 17 #[.string s] w fun e w' => e = .returned (.bool (Cl.name s)) ∧ Below w.heap.size w w' := by
  go_enter Try.func17, Try.ntmps17
  go_wp2_with fail
  refine (runes_any s _ hs).mono ?_
  rintro e w1 ⟨lv, av, rfl, hr1, -, hb1⟩
  clear hs
  by_cases hz : (Cl.runes s).length = 0
  · obtain ⟨a1, c1, rfl⟩ := hr1.shape
    have hn : Cl.name s = false := by unfold Cl.name; rw [hz]; rfl
    have HN := Lib.hid hn
    clear hn hr1
    rw [hz]
    clear hz
    go_wp2_with fail
    go_ret
    exact ⟨ret_bool HN.out.symm, hb1⟩
  · by_cases h24 : 24 < (Cl.runes s).length
    · obtain ⟨a1, c1, rfl⟩ := hr1.shape
      have hn : Cl.name s = false := by rw [Cl.name_eq, decide_eq_false (by omega), Bool.and_false]
      have HN := Lib.hid hn
      have hlt : decide (((Cl.runes s).length : Int) < 1) = false := by simp; omega
      have h24' : decide ((24 : Int) < ((Cl.runes s).length : Int)) = true := by simp; omega
      clear hn hr1
      go_wp2_with fail
      go_ret
      exact ⟨ret_bool HN.out.symm, hb1⟩
    · obtain ⟨b1, o1, k1, hv1, hk1, hK1, -, hc1⟩ := hr1.some (by omega)
      subst hv1
      obtain ⟨x0, hx0⟩ : ∃ x, (Cl.runes s)[0]? = some x := ⟨(Cl.runes s)[0]'(by omega), by simp⟩
      have hcell0 := runeV_cell hc1 0 x0 hx0
      rw [Nat.add_zero] at hcell0
      have HC := Lib.hid (@runeV_cell w1 b1 o1 (Cl.runes s) hc1)
      have hn := name_of s x0 hx0 (by omega)
      have HN := Lib.hid hn
      clear hn hx0 hr1 hc1
      have hlt1 : 0 < (Cl.runes s).length := by omega
      have hle24 : (Cl.runes s).length ≤ 24 := by omega
      clear hz h24
      cases hl : Cl.letter x0.2 with
      | false =>
        go_wp2_with fail
        refine (refletter_any _ _).mono ?_
        rintro e w' ⟨rfl, rfl⟩
        rw [hl]
        go_wp2_with fail
        go_ret
        exact ⟨ret_bool (by rw [HN.out, hl]; rfl), hb1⟩
      | true =>
        go_wp2_with fail
        refine (refletter_any _ _).mono ?_
        rintro e w' ⟨rfl, rfl⟩
        rw [hl]
        go_wp2
        clear hcell0
        go_loopw [5] (fun i wr => ∃ k n : Nat, k ≤ (Cl.runes s).length ∧ i = .int .i64 k ∧ wr = w1.drewN n ∧ Hid (((Cl.runes s).take k).all (fun x => Cl.later x.2) = true)) (fun i _ => (Cl.runes s).length - (intOf i).toNat)
        case atStart => exact ⟨0, 0, Nat.zero_le _, rfl, rfl, Lib.hid (by simp)⟩
        case round =>
          obtain ⟨k, n, hk, rfl, rfl, HT⟩ := hrel
          by_cases hlt : k < (Cl.runes s).length
          · obtain ⟨x, hx⟩ : ∃ x, (Cl.runes s)[k]? = some x := ⟨(Cl.runes s)[k], by simp [hlt]⟩
            have hcell := HC.out k x hx
            have HX := Lib.hid hx
            clear hx
            cases hx1 : Cl.letter x.2 with
            | true =>
              go_wp2_with fail
              refine (refletter_any _ _).mono ?_
              rintro e w' ⟨rfl, rfl⟩
              rw [hx1]
              go_wp2
              go_roundw
              case rel => exact ⟨k + 1, n, by omega, by go_num, rfl, Lib.hid (all_snoc _ _ _ HX.out HT.out (Cl.later_yes _ hx1))⟩
              case measure => simp [intOf]; omega
            | false =>
              have hlat := Cl.later_not x.2 hx1
              have HLAT := Lib.hid hlat
              clear hlat
              by_cases c48 : (x.2 : Int) < 48
              · by_cases c45 : x.2 = 45
                · have b45 : ((x.2 : Int) != 45) = false := by simp; omega
                  have C45 := Lib.hid c45
                  clear c45
                  go_wp2_with fail
                  refine (refletter_any _ _).mono ?_
                  rintro e w' ⟨rfl, rfl⟩
                  rw [hx1]
                  go_wp2
                  go_roundw
                  case rel => exact ⟨k + 1, n, by omega, by go_num, rfl, Lib.hid (all_snoc _ _ _ HX.out HT.out (by have := C45.out; rw [HLAT.out]; simp; omega))⟩
                  case measure => simp [intOf]; omega
                · have b45 : ((x.2 : Int) != 45) = true := by simp; omega
                  go_wp2_with fail
                  refine (refletter_any _ _).mono ?_
                  rintro e w' ⟨rfl, rfl⟩
                  rw [hx1]
                  go_wp2
                  go_ret
                  refine ⟨ret_bool ?_, bel_trans hb1 (bel_drewN _ _)⟩
                  rw [HN.out, all_bad _ _ _ HX.out (by rw [HLAT.out]; simp; omega), Bool.and_false]
              · by_cases c57 : 57 < (x.2 : Int)
                · have b45 : ((x.2 : Int) != 45) = true := by simp; omega
                  go_wp2_with fail
                  refine (refletter_any _ _).mono ?_
                  rintro e w' ⟨rfl, rfl⟩
                  rw [hx1]
                  go_wp2
                  go_ret
                  refine ⟨ret_bool ?_, bel_trans hb1 (bel_drewN _ _)⟩
                  rw [HN.out, all_bad _ _ _ HX.out (by rw [HLAT.out]; simp; omega), Bool.and_false]
                · go_wp2_with fail
                  refine (refletter_any _ _).mono ?_
                  rintro e w' ⟨rfl, rfl⟩
                  rw [hx1]
                  go_wp2
                  go_roundw
                  case rel => exact ⟨k + 1, n, by omega, by go_num, rfl, Lib.hid (all_snoc _ _ _ HX.out HT.out (by rw [HLAT.out]; simp; omega))⟩
                  case measure => simp [intOf]; omega
          · go_wp2
            go_ret
            refine ⟨ret_bool ?_, bel_trans hb1 (bel_drewN _ _)⟩
            have ht := HT.out
            rw [List.take_of_length_le (by omega)] at ht
            rw [HN.out, hl, ht]; rfl

end Go.Proofs.Ytpmelloanohlkaa
