/-
  The walk through slices.Equal over []string; works.
-/
import Derived.Test.YtpmelloanohlkaaNamesWords
namespace Go.Proofs.Ytpmelloanohlkaa
open Go.RowKit

theorem strs_cell {w : World} {b off : Nat} {xs : List ByteArray} (h : ∀ i c, (strs xs)[i]? = some c → w.cell? ⟨b, off + i, none⟩ = some c) (i : Nat) (x : ByteArray) (hx : xs[i]? = some x) : w.cell? ⟨b, off + i, none⟩ = some (.string x) := h i _ (by simp [strs, hx])
theorem eqs_take_step (xs ys : List ByteArray) (k : Nat) (x y : ByteArray) (hx : xs[k]? = some x) (hy : ys[k]? = some y) (h : xs.take k = ys.take k) (hxy : x = y) : xs.take (k + 1) = ys.take (k + 1) := by
  rw [take_snoc_of xs k x hx, take_snoc_of ys k y hy, h, hxy]

set_option maxHeartbeats 400000 in
theorem eqStrs_any (v1 v2 : Value) (xs ys : List ByteArray) (w : World) (h1 : Reads w v1 xs.length (strs xs)) (h2 : Reads w v2 ys.length (strs ys)) :
    Calls Try.prog 12 #[v1, v2] w fun e w' => e = .returned (.bool (decide (xs = ys))) ∧ ∃ n, w.drewN n = w' := by
  have hlx := h1.lenLe
  have hly := h2.lenLe
  unfold maxLen at hlx hly
  obtain ⟨a1, c1, rfl⟩ := h1.shape
  obtain ⟨a2, c2, rfl⟩ := h2.shape
  by_cases hlen : xs.length = ys.length
  · have hp : ((xs.length : Int) != (ys.length : Int)) = false := by simp [hlen]
    by_cases h0 : xs.length = 0
    · have hx0 : xs = [] := List.eq_nil_of_length_eq_zero h0
      have hy0 : ys = [] := List.eq_nil_of_length_eq_zero (by omega)
      subst hx0; subst hy0
      clear hlen hp h0
      go_enter Try.func12, Try.ntmps12
      go_wp2
      go_loop [13] (fun i => i = .int .i64 0) (fun _ => 0)
      case atStart => rfl
      case round =>
        subst hrel
        go_wp2
        go_ret
        exact ⟨rfl, 0, rfl⟩
    · obtain ⟨b1, o1, k1, hv1, _, _, _, hc1⟩ : ∃ b off cap, (Value.slice a1 xs.length c1) = .slice (some ⟨b, off, none⟩) xs.length cap ∧ xs.length ≤ cap ∧ cap ≤ maxLen ∧ b < w.heap.size ∧ ∀ i c, (strs xs)[i]? = some c → w.cell? ⟨b, off + i, none⟩ = some c := by
        exact h1.some (by omega)
      obtain ⟨b2, o2, k2, hv2, _, _, _, hc2⟩ : ∃ b off cap, (Value.slice a2 ys.length c2) = .slice (some ⟨b, off, none⟩) ys.length cap ∧ ys.length ≤ cap ∧ cap ≤ maxLen ∧ b < w.heap.size ∧ ∀ i c, (strs ys)[i]? = some c → w.cell? ⟨b, off + i, none⟩ = some c := by
        exact h2.some (by omega)
      rw [hv1, hv2]
      clear hv1 hv2 h1 h2
      have HC1 := Lib.hid hc1
      have HC2 := Lib.hid hc2
      clear hc1 hc2
      have HL := Lib.hid hlen
      clear hlen
      go_enter Try.func12, Try.ntmps12
      go_wp2
      go_loopw [13] (fun i wr => ∃ k n : Nat, k ≤ xs.length ∧ i = .int .i64 k ∧ wr = w.drewN n ∧ Hid (xs.take k = ys.take k)) (fun i _ => xs.length - (intOf i).toNat)
      case atStart => exact ⟨0, 0, Nat.zero_le _, rfl, rfl, Lib.hid (by simp)⟩
      case round =>
        obtain ⟨k, n, hk, rfl, rfl, HT⟩ := hrel
        by_cases hlt : k < xs.length
        · obtain ⟨x, hx⟩ : ∃ x, xs[k]? = some x := ⟨xs[k], by simp [hlt]⟩
          obtain ⟨y, hy⟩ : ∃ y, ys[k]? = some y := ⟨ys[k]'(by have := HL.out; omega), by simp⟩
          have hcx := strs_cell HC1.out k x hx
          have hcy := strs_cell HC2.out k y hy
          have hky : (k : Int) < (ys.length : Int) := by have := HL.out; omega
          have HX := Lib.hid hx
          have HY := Lib.hid hy
          clear hx hy
          by_cases hxy : x = y
          · subst hxy
            go_wp2_with fail
            go_quiet (fail)
            go_wp2
            go_roundw
            case rel =>
              refine ⟨k + 1, _, by omega, by go_num, rfl, Lib.hid ?_⟩
              exact eqs_take_step xs ys k x x HX.out HY.out HT.out rfl
            case measure => simp [intOf]; omega
          · have hb : (x.toList == y.toList) = false := by
              rw [Lib.toList_data, Lib.toList_data]
              simp only [beq_eq_false_iff_ne, ne_eq]
              intro e
              apply hxy
              cases x; cases y
              simpa using e
            go_wp2_with fail
            go_quiet (fail)
            go_wp2
            go_ret
            refine ⟨ret_bool ?_, _, (drewN_add _ _ _).symm⟩
            have hne : xs ≠ ys := fun e => hxy (by have h1 := HX.out; rw [e, HY.out] at h1; exact (Option.some.inj h1).symm)
            simp [hne]
        · go_wp2
          go_ret
          refine ⟨ret_bool ?_, _, rfl⟩
          have h := HT.out
          rw [List.take_of_length_le (by omega), List.take_of_length_le (by have := HL.out; omega)] at h
          simp [h]
  · have hp : ((xs.length : Int) != (ys.length : Int)) = true := by
      rw [bne_iff_ne]; omega
    have hne : xs ≠ ys := fun e => hlen (by rw [e])
    have HN := Lib.hid hne
    clear hne hlen
    go_enter Try.func12, Try.ntmps12
    go_wp2
    go_ret
    exact ⟨ret_bool (by simp [HN.out]), 0, rfl⟩



theorem words_is (s : ByteArray) (r : List ByteArray) (x : Int) (w : World) (hs : s.size ≤ 140737488351232) (h : Cl.wordsR s = (r, x)) :
    Calls Try.prog 10 #[.string s] w fun e w' => ∃ v, e = .returned (.tuple #[v, .int .i64 x]) ∧ Reads w' v r.length (strs r) ∧ Below w.heap.size w w' := by
  refine (words_any s w hs).mono fun e w' ht => ?_
  unfold WordsSays at ht
  rw [h] at ht
  exact ht
theorem name_is (s : ByteArray) (b : Bool) (w : World) (hs : s.size ≤ 140737488351232) (h : Cl.name s = b) :
    Calls Try.prog 16 #[.string s] w fun e w' => e = .returned (.bool b) ∧ Below w.heap.size w w' := by
  rw [← h]; exact name_any s w hs
theorem many_is (s : ByteArray) (n : Nat) (w : World) (hs : s.size ≤ 140737488351232) (h : (Cl.runes s).length = n) :
    Calls Try.prog 18 #[.string s] w fun e w' => e = .returned (.int .i64 n) ∧ Below w.heap.size w w' := by
  rw [← h]; exact many_any s w hs

theorem w1_is : Cl.wordsR ⟨#[32, 32, 97, 32, 98, 99, 9]⟩ = ([⟨#[97]⟩, ⟨#[98, 99]⟩], 0) := by kernel_rfl
theorem n1_is : Cl.name ⟨#[114, 195, 164, 117, 109, 101, 45, 55]⟩ = true := by kernel_rfl
theorem n2_is : Cl.name ⟨#[55, 97]⟩ = false := by kernel_rfl
theorem m1_is : (Cl.runes ⟨#[195, 182, 195, 159]⟩).length = 2 := by kernel_rfl

theorem works_any (w : World) : Calls Try.prog 9 #[] w fun e w' => e = .returned (.bool true) ∧ Below w.heap.size w w' := by
  go_enter Try.func9, Try.ntmps9
  go_wp2_with fail
  refine (words_is _ _ _ w (by decide) w1_is).mono ?_
  rintro e w1 ⟨v, rfl, hr1, hb1⟩
  go_wp2_with fail
  refine (name_is _ true _ (by decide) n1_is).mono ?_
  rintro e w2 ⟨rfl, hb2⟩
  have hr2 := hr1.below hb2
  clear hr1
  go_wp2_with fail
  refine (name_is _ false _ (by decide) n2_is).mono ?_
  rintro e w3 ⟨rfl, hb3⟩
  have hr3 := hr2.below hb3
  clear hr2
  go_wp2_with fail
  refine (many_is _ 2 _ (by decide) m1_is).mono ?_
  rintro e w4 ⟨rfl, hb4⟩
  have hr4 := hr3.below hb4
  clear hr3
  go_wp2_with fail
  refine (eqStrs_any _ _ [⟨#[97]⟩, ⟨#[98, 99]⟩] [⟨#[97]⟩, ⟨#[98, 99]⟩] _ (hr4.alloc _) (Reads.lit _ _ _ 2 _ (by simp) (by simp [maxLen]))).mono ?_
  rintro e w' ⟨rfl, n1, rfl⟩
  clear hr4
  go_wp2_with fail
  go_ret
  exact ⟨rfl, bel_trans hb1 (bel_trans hb2 (bel_trans hb3 (bel_trans hb4 (bel_alloc_drewN _ _ _))))⟩

end Go.Proofs.Ytpmelloanohlkaa
