/-
  The walks through slices.Equal, Contains over []int.
-/
import Derived.Test.YtllecjhfbojgcaaLib
namespace Go.Proofs.Ytllecjhfbojgcaa
open Go.RowKit
set_option maxRecDepth 20000

set_option maxHeartbeats 400000 in
theorem eqInts_any (v1 v2 : Value) (xs ys : List Int) (w : World) (h1 : Reads w v1 xs.length (ints xs)) (h2 : Reads w v2 ys.length (ints ys)) :
    Calls Try.prog 30 #[v1, v2] w fun e w' => e = .returned (.bool (decide (xs = ys))) ∧ ∃ n, w.drewN n = w' := by
  have hlx := h1.lenLe
  have hly := h2.lenLe
  unfold maxLen at hlx hly
  obtain ⟨a1, c1, rfl⟩ := h1.shape
  obtain ⟨a2, c2, rfl⟩ := h2.shape
  by_cases hlen : xs.length = ys.length
  · have hp : ((xs.length : Int) != (ys.length : Int)) = false := by simp [hlen]
    by_cases h0 : xs.length = 0
    · have hx0 : xs = [] := List.eq_nil_of_length_eq_zero h0
      have hy0 : ys = [] := List.eq_nil_of_length_eq_zero (by omega)
      subst hx0; subst hy0
      clear hlen hp h0
      go_enter Try.func30, Try.ntmps30
      go_wp2
      go_loop [13] (fun i => i = .int .i64 0) (fun _ => 0)
      case atStart => rfl
      case round =>
        subst hrel
        go_wp2
        go_ret
        exact ⟨rfl, 0, rfl⟩
    · obtain ⟨b1, o1, k1, hv1, _, _, _, hc1⟩ : ∃ b off cap, (Value.slice a1 xs.length c1) = .slice (some ⟨b, off, none⟩) xs.length cap ∧ xs.length ≤ cap ∧ cap ≤ maxLen ∧ b < w.heap.size ∧ ∀ i c, (ints xs)[i]? = some c → w.cell? ⟨b, off + i, none⟩ = some c := by
        exact h1.some (by omega)
      obtain ⟨b2, o2, k2, hv2, _, _, _, hc2⟩ : ∃ b off cap, (Value.slice a2 ys.length c2) = .slice (some ⟨b, off, none⟩) ys.length cap ∧ ys.length ≤ cap ∧ cap ≤ maxLen ∧ b < w.heap.size ∧ ∀ i c, (ints ys)[i]? = some c → w.cell? ⟨b, off + i, none⟩ = some c := by
        exact h2.some (by omega)
      rw [hv1, hv2]
      clear hv1 hv2 h1 h2
      have HC1 := Lib.hid hc1
      have HC2 := Lib.hid hc2
      clear hc1 hc2
      have HL := Lib.hid hlen
      clear hlen
      go_enter Try.func30, Try.ntmps30
      go_wp2
      go_loopw [13] (fun i wr => ∃ k n : Nat, k ≤ xs.length ∧ i = .int .i64 k ∧ wr = w.drewN n ∧ Hid (xs.take k = ys.take k)) (fun i _ => xs.length - (intOf i).toNat)
      case atStart => exact ⟨0, 0, Nat.zero_le _, rfl, rfl, Lib.hid (by simp)⟩
      case round =>
        obtain ⟨k, n, hk, rfl, rfl, HT⟩ := hrel
        by_cases hlt : k < xs.length
        · obtain ⟨x, hx⟩ : ∃ x, xs[k]? = some x := ⟨xs[k], by simp [hlt]⟩
          obtain ⟨y, hy⟩ : ∃ y, ys[k]? = some y := ⟨ys[k]'(by have := HL.out; omega), by simp⟩
          have hcx := ints_cell HC1.out k x hx
          have hcy := ints_cell HC2.out k y hy
          have hky : (k : Int) < (ys.length : Int) := by have := HL.out; omega
          have HX := Lib.hid hx
          have HY := Lib.hid hy
          clear hx hy
          by_cases hxy : x = y
          · subst hxy
            have hb : ((x : Int) != x) = false := by simp
            go_wp2_with fail
            go_quiet (fail)
            go_wp2
            go_roundw
            case rel =>
              refine ⟨k + 1, _, by omega, by go_num, rfl, Lib.hid ?_⟩
              exact eq_take_step xs ys k x x HX.out HY.out HT.out rfl
            case measure => simp [intOf]; omega
          · have hb : ((x : Int) != y) = true := by simpa using hxy
            go_wp2_with fail
            go_quiet (fail)
            go_wp2
            go_ret
            refine ⟨ret_bool ?_, _, (drewN_add _ _ _).symm⟩
            have hne : xs ≠ ys := fun e => hxy (by have h1 := HX.out; rw [e, HY.out] at h1; exact (Option.some.inj h1).symm)
            simp [hne]
        · go_wp2
          go_ret
          refine ⟨ret_bool ?_, _, rfl⟩
          have h := HT.out
          rw [List.take_of_length_le (by omega), List.take_of_length_le (by have := HL.out; omega)] at h
          simp [h]
  · have hp : ((xs.length : Int) != (ys.length : Int)) = true := by
      rw [bne_iff_ne]; omega
    have hne : xs ≠ ys := fun e => hlen (by rw [e])
    have HN := Lib.hid hne
    clear hne hlen
    go_enter Try.func30, Try.ntmps30
    go_wp2
    go_ret
    exact ⟨ret_bool (by simp [HN.out]), 0, rfl⟩


def FoundAt (xs : List Int) (x : Int) (w : World) (e : Ending) (w' : World) : Prop :=
  (∃ i : Int, e = .returned (.int .i64 i) ∧ ((x ∈ xs ∧ 0 ≤ i ∧ i < xs.length) ∨ (x ∉ xs ∧ i = -1))) ∧ w = w'

end Go.Proofs.Ytllecjhfbojgcaa
