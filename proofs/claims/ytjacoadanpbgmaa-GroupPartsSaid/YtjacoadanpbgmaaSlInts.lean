/-
  The walks through slices.Equal, Contains over []int.
-/
import Derived.Test.YtjacoadanpbgmaaLib
namespace Go.Proofs.Ytjacoadanpbgmaa
open Go.RowKit

def ints (xs : List Int) : List Value := xs.map (Value.int .i64)
theorem ints_at {xs : List Int} {i : Nat} {x : Int} (h : xs[i]? = some x) : (ints xs)[i]? = some (.int .i64 x) := by simp [ints, h]

theorem ints_cell {w : World} {b off : Nat} {xs : List Int} (h : ∀ i c, (ints xs)[i]? = some c → w.cell? ⟨b, off + i, none⟩ = some c) (i : Nat) (x : Int) (hx : xs[i]? = some x) : w.cell? ⟨b, off + i, none⟩ = some (.int .i64 x) := h i _ (ints_at hx)

theorem ints_one (xs : List Int) : ∀ u ∈ ints xs, u.oneCell' = true := ints_oneCell .i64 xs

theorem drewN_zero (w : World) : w.drewN 0 = w := rfl

theorem eq_take_step (xs ys : List Int) (k : Nat) (x y : Int) (hx : xs[k]? = some x) (hy : ys[k]? = some y) (h : xs.take k = ys.take k) (hxy : x = y) : xs.take (k + 1) = ys.take (k + 1) := by
  rw [take_snoc_of xs k x hx, take_snoc_of ys k y hy, h, hxy]

set_option maxHeartbeats 400000 in
theorem eqInts_any (v1 v2 : Value) (xs ys : List Int) (w : World) (h1 : Reads w v1 xs.length (ints xs)) (h2 : Reads w v2 ys.length (ints ys)) :
    Calls Try.prog 24 #[v1, v2] w fun e w' => e = .returned (.bool (decide (xs = ys))) ∧ ∃ n, w.drewN n = w' := by
  have hlx := h1.lenLe
  have hly := h2.lenLe
  unfold maxLen at hlx hly
  obtain ⟨a1, c1, rfl⟩ := h1.shape
  obtain ⟨a2, c2, rfl⟩ := h2.shape
  by_cases hlen : xs.length = ys.length
  · have hp : ((xs.length : Int) != (ys.length : Int)) = false := by simp [hlen]
    by_cases h0 : xs.length = 0
    · have hx0 : xs = [] := List.eq_nil_of_length_eq_zero h0
      have hy0 : ys = [] := List.eq_nil_of_length_eq_zero (by omega)
      subst hx0; subst hy0
      clear hlen hp h0
      go_enter Try.func24, Try.ntmps24
      go_wp2
      go_loop [13] (fun i => i = .int .i64 0) (fun _ => 0)
      case atStart => rfl
      case round =>
        subst hrel
        go_wp2
        go_ret
        exact ⟨rfl, 0, rfl⟩
    · obtain ⟨b1, o1, k1, hv1, _, _, _, hc1⟩ : ∃ b off cap, (Value.slice a1 xs.length c1) = .slice (some ⟨b, off, none⟩) xs.length cap ∧ xs.length ≤ cap ∧ cap ≤ maxLen ∧ b < w.heap.size ∧ ∀ i c, (ints xs)[i]? = some c → w.cell? ⟨b, off + i, none⟩ = some c := by
        rcases h1 with ⟨_, hz, _⟩ | h
        · exact absurd hz h0
        · exact h
      obtain ⟨b2, o2, k2, hv2, _, _, _, hc2⟩ : ∃ b off cap, (Value.slice a2 ys.length c2) = .slice (some ⟨b, off, none⟩) ys.length cap ∧ ys.length ≤ cap ∧ cap ≤ maxLen ∧ b < w.heap.size ∧ ∀ i c, (ints ys)[i]? = some c → w.cell? ⟨b, off + i, none⟩ = some c := by
        rcases h2 with ⟨_, hz, _⟩ | h
        · omega
        · exact h
      rw [hv1, hv2]
      clear hv1 hv2 h1 h2
      have HC1 := Lib.hid hc1
      have HC2 := Lib.hid hc2
      clear hc1 hc2
      have HL := Lib.hid hlen
      clear hlen
      go_enter Try.func24, Try.ntmps24
      go_wp2
      go_loopw [13] (fun i wr => ∃ k n : Nat, k ≤ xs.length ∧ i = .int .i64 k ∧ wr = w.drewN n ∧ Hid (xs.take k = ys.take k)) (fun i _ => xs.length - (intOf i).toNat)
      case atStart => exact ⟨0, 0, Nat.zero_le _, rfl, rfl, Lib.hid (by simp)⟩
      case round =>
        obtain ⟨k, n, hk, rfl, rfl, HT⟩ := hrel
        by_cases hlt : k < xs.length
        · obtain ⟨x, hx⟩ : ∃ x, xs[k]? = some x := ⟨xs[k], by simp [hlt]⟩
          obtain ⟨y, hy⟩ : ∃ y, ys[k]? = some y := ⟨ys[k]'(by have := HL.out; omega), by simp⟩
          have hcx := ints_cell HC1.out k x hx
          have hcy := ints_cell HC2.out k y hy
          have hky : (k : Int) < (ys.length : Int) := by have := HL.out; omega
          have HX := Lib.hid hx
          have HY := Lib.hid hy
          clear hx hy
          by_cases hxy : x = y
          · subst hxy
            have hb : ((x : Int) != x) = false := by simp
            go_wp2_with fail
            go_quiet (fail)
            go_wp2
            go_roundw
            case rel =>
              refine ⟨k + 1, _, by omega, by go_num, rfl, Lib.hid ?_⟩
              exact eq_take_step xs ys k x x HX.out HY.out HT.out rfl
            case measure => simp [intOf]; omega
          · have hb : ((x : Int) != y) = true := by simpa using hxy
            go_wp2_with fail
            go_quiet (fail)
            go_wp2
            go_ret
            refine ⟨ret_bool ?_, _, (drewN_add _ _ _).symm⟩
            have hne : xs ≠ ys := fun e => hxy (by have h1 := HX.out; rw [e, HY.out] at h1; exact (Option.some.inj h1).symm)
            simp [hne]
        · go_wp2
          go_ret
          refine ⟨ret_bool ?_, _, rfl⟩
          have h := HT.out
          rw [List.take_of_length_le (by omega), List.take_of_length_le (by have := HL.out; omega)] at h
          simp [h]
  · have hp : ((xs.length : Int) != (ys.length : Int)) = true := by
      rw [bne_iff_ne]; omega
    have hne : xs ≠ ys := fun e => hlen (by rw [e])
    have HN := Lib.hid hne
    clear hne hlen
    go_enter Try.func24, Try.ntmps24
    go_wp2
    go_ret
    exact ⟨ret_bool (by simp [HN.out]), 0, rfl⟩


def FoundAt (xs : List Int) (x : Int) (w : World) (e : Ending) (w' : World) : Prop :=
  (∃ i : Int, e = .returned (.int .i64 i) ∧ ((x ∈ xs ∧ 0 ≤ i ∧ i < xs.length) ∨ (x ∉ xs ∧ i = -1))) ∧ w = w'

set_option maxHeartbeats 400000 in
theorem indexInts_any (v : Value) (xs : List Int) (x : Int) (w : World) (h : Reads w v xs.length (ints xs)) :
    Calls Try.prog 34 #[v, .int .i64 x] w (FoundAt xs x w) := by
  have hlx := h.lenLe
  unfold maxLen at hlx
  obtain ⟨a1, c1, rfl⟩ := h.shape
  by_cases h0 : xs.length = 0
  · have hx0 : xs = [] := List.eq_nil_of_length_eq_zero h0
    subst hx0
    clear h0
    go_enter Try.func34, Try.ntmps34
    go_wp2
    go_loop [8] (fun i => i = .int .i64 0) (fun _ => 0)
    case atStart => rfl
    case round =>
      subst hrel
      go_wp2
      go_ret
      exact ⟨⟨-1, rfl, .inr ⟨by simp, rfl⟩⟩, rfl⟩
  · obtain ⟨b1, o1, k1, hv1, _, _, _, hc1⟩ : ∃ b off cap, (Value.slice a1 xs.length c1) = .slice (some ⟨b, off, none⟩) xs.length cap ∧ xs.length ≤ cap ∧ cap ≤ maxLen ∧ b < w.heap.size ∧ ∀ i c, (ints xs)[i]? = some c → w.cell? ⟨b, off + i, none⟩ = some c := by
      rcases h with ⟨_, hz, _⟩ | h
      · exact absurd hz h0
      · exact h
    rw [hv1]
    clear hv1 h
    have HC1 := Lib.hid hc1
    clear hc1
    go_enter Try.func34, Try.ntmps34
    go_wp2
    go_loop [8] (fun i => ∃ k : Nat, k ≤ xs.length ∧ i = .int .i64 k ∧ Hid (x ∉ xs.take k)) (fun i => xs.length - (intOf i).toNat)
    case atStart => exact ⟨0, Nat.zero_le _, rfl, Lib.hid (by simp)⟩
    case round =>
      obtain ⟨k, hk, rfl, HT⟩ := hrel
      by_cases hlt : k < xs.length
      · obtain ⟨y, hy⟩ : ∃ y, xs[k]? = some y := ⟨xs[k], by simp [hlt]⟩
        have hcy := ints_cell HC1.out k y hy
        have HY := Lib.hid hy
        clear hy
        by_cases hxy : x = y
        · subst hxy
          have hb : ((x : Int) == x) = true := by simp
          go_wp2_with fail
          go_ret
          refine ⟨⟨_, rfl, .inl ⟨List.mem_of_getElem? HY.out, by omega, by omega⟩⟩, rfl⟩
        · have hb : ((x : Int) == y) = false := by simpa using hxy
          go_wp2_with fail
          go_round
          case rel =>
            refine ⟨k + 1, by omega, by go_num, Lib.hid ?_⟩
            rw [take_snoc_of xs k y HY.out]
            simp only [List.mem_append, List.mem_singleton, not_or]
            exact ⟨HT.out, hxy⟩
          case measure => simp [intOf]; omega
      · go_wp2
        go_ret
        refine ⟨⟨_, rfl, .inr ⟨?_, rfl⟩⟩, rfl⟩
        have h := HT.out
        rw [List.take_of_length_le (by omega)] at h
        exact h

set_option maxHeartbeats 400000 in
theorem containsInts_any (v : Value) (xs : List Int) (x : Int) (w : World) (h : Reads w v xs.length (ints xs)) :
    Calls Try.prog 29 #[v, .int .i64 x] w fun e w' => e = .returned (.bool (decide (x ∈ xs))) ∧ w = w' := by
  go_enter Try.func29, Try.ntmps29
  go_wp2_with fail
  refine (indexInts_any v xs x w h).mono ?_
  rintro e w' ⟨⟨i, rfl, hi⟩, rfl⟩
  have hi2 : decide (0 ≤ i) = decide (x ∈ xs) := by
    rcases hi with ⟨h1, h2, _⟩ | ⟨h1, h2⟩
    · simp [h1, h2]
    · simp [h1, h2]
  clear hi h
  go_wp2_with fail
  go_ret
  exact ⟨rfl, rfl⟩

end Go.Proofs.Ytjacoadanpbgmaa
