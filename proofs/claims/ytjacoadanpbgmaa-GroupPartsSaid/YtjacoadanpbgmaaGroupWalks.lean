/-
  The walks through package group and its reference.
-/
import Derived.Test.YtjacoadanpbgmaaSlInts
namespace Go.Proofs.Ytjacoadanpbgmaa
open Go.RowKit

theorem wf64 {n : Int} (h : (Lit.int .i64 n).wf = true) : -(2 : Int) ^ 63 ≤ n ∧ n ≤ (2 : Int) ^ 63 - 1 := by
  have := bounds_i64 h
  omega

theorem tmod8 (k : Int) : -8 < k.tmod 8 ∧ (k.tmod 8 < 0 → k.tmod 8 + 8 = k % 8) ∧ (0 ≤ k.tmod 8 → k.tmod 8 = k % 8) := by
  by_cases h : 0 ≤ k
  · rw [Int.tmod_eq_emod_of_nonneg h]; omega
  · have e : k.tmod 8 = -((-k) % 8) := by
      rw [← Int.tmod_eq_emod_of_nonneg (by omega : 0 ≤ -k), Int.neg_tmod, Int.neg_neg]
    rw [e]; omega

theorem tmod8_neg (k : Int) (h : k.tmod 8 < 0) : wrap64 (k.tmod 8 + 8) = k % 8 := by
  have := tmod8 k
  rw [IntWalk.wrap64_in _ (by omega)]; omega

set_option maxHeartbeats 400000 in
theorem gof_any (key : Int) (w : World) :
    Calls Try.prog 20 #[.int .i64 key] w fun e w' => e = .returned (.int .i64 (key % 8)) ∧ w = w' := by
  by_cases h : key.tmod 8 < 0
  · have hd : decide (key.tmod 8 < 0) = true := by simpa using h
    go_enter Try.func20, Try.ntmps20
    go_wp2
    go_ret
    exact ⟨ret_int (tmod8_neg key h), rfl⟩
  · have hd : decide (key.tmod 8 < 0) = false := by simpa using h
    have e : key.tmod 8 = key % 8 := (tmod8 key).2.2 (by omega)
    have E := Lib.hid e
    clear e h
    go_enter Try.func20, Try.ntmps20
    go_wp2
    go_ret
    exact ⟨ret_int E.out, rfl⟩

theorem emod8 (k : Int) : 0 ≤ k % 8 ∧ k % 8 ≤ 7 := by omega

set_option maxHeartbeats 400000 in
theorem gpart_any (key : Int) (w : World) :
    Calls Try.prog 19 #[.int .i64 key] w fun e w' => e = .returned (.int .i64 (key % 8 / 4)) ∧ w = w' := by
  have h := emod8 key
  go_enter Try.func19, Try.ntmps19
  go_wp2_with (go_at_call 20; refine (gof_any _ _).mono ?_; rintro e w' ⟨rfl, rfl⟩)
  go_ret
  exact ⟨rfl, rfl⟩

set_option maxHeartbeats 400000 in
theorem gplaceI_any (g par : Int) (w : World) (h0 : 0 ≤ g) (h1 : g ≤ 7) (h2 : 1 ≤ par) (h3 : par ≤ 4) :
    Calls Try.prog 33 #[.int .i64 g, .int .i64 par] w fun e w' => e = .returned (.int .i64 (g * par / 8)) ∧ w = w' := by
  have hp : 0 ≤ g * par := Int.mul_nonneg h0 (by omega)
  have hq : g * par ≤ 28 := by
    have := Int.mul_le_mul h1 h3 (by omega) (by omega)
    omega
  go_enter Try.func33, Try.ntmps33
  go_wp2
  go_ret
  exact ⟨rfl, rfl⟩

/-- A key's place; -1: there is none. -/
def placeOf (key par : Int) : Int := if 1 ≤ par ∧ par ≤ 4 then key % 8 * par / 8 else -1

set_option maxHeartbeats 400000 in
theorem gplace_any (key par : Int) (w : World) :
    Calls Try.prog 21 #[.int .i64 key, .int .i64 par] w fun e w' => e = .returned (.int .i64 (placeOf key par)) ∧ w = w' := by
  by_cases h1 : par < 1
  · have e : placeOf key par = -1 := by unfold placeOf; rw [if_neg (by omega)]
    rw [e]; clear e
    go_enter Try.func21, Try.ntmps21
    go_wp2
    go_ret
    exact ⟨rfl, rfl⟩
  · by_cases h2 : 4 < par
    · have e : placeOf key par = -1 := by unfold placeOf; rw [if_neg (by omega)]
      rw [e]; clear e
      go_enter Try.func21, Try.ntmps21
      go_wp2
      go_ret
      exact ⟨rfl, rfl⟩
    · have e : placeOf key par = key % 8 * par / 8 := by unfold placeOf; rw [if_pos (by omega)]
      rw [e]; clear e
      obtain ⟨h3, h4⟩ := emod8 key
      go_enter Try.func21, Try.ntmps21
      go_wp2_with fail
      refine (gof_any _ _).mono ?_
      rintro e w' ⟨rfl, rfl⟩
      go_wp2_with fail
      refine (gplaceI_any _ _ _ h3 h4 (by omega) (by omega)).mono ?_
      rintro e w' ⟨rfl, rfl⟩
      go_wp2_with fail
      go_ret
      exact ⟨rfl, rfl⟩

set_option maxHeartbeats 400000 in
theorem rof_any (key : Int) (w : World) :
    Calls Try.prog 25 #[.int .i64 key] w fun e w' => e = .returned (.int .i64 (key % 8)) ∧ w = w' := by
  have h := tmod8 key
  have hlo : -8 < key.tmod 8 := h.1
  have hhi : key.tmod 8 ≤ 7 := by omega
  clear h
  go_enter Try.func25, Try.ntmps25
  go_wp2
  go_ret
  exact ⟨ret_int (by have := tmod8 key; omega), rfl⟩

set_option maxHeartbeats 400000 in
theorem rpart_any (key : Int) (w : World) :
    Calls Try.prog 26 #[.int .i64 key] w fun e w' => e = .returned (.int .i64 (key % 8 / 4)) ∧ w = w' := by
  obtain ⟨h3, h4⟩ := emod8 key
  by_cases h : key % 8 < 4
  · have e : key % 8 / 4 = 0 := by omega
    rw [e]; clear e
    go_enter Try.func26, Try.ntmps26
    go_wp2_with (go_at_call 25; refine (rof_any _ _).mono ?_; rintro e w' ⟨rfl, rfl⟩)
    go_ret
    exact ⟨rfl, rfl⟩
  · have e : key % 8 / 4 = 1 := by omega
    rw [e]; clear e
    go_enter Try.func26, Try.ntmps26
    go_wp2_with (go_at_call 25; refine (rof_any _ _).mono ?_; rintro e w' ⟨rfl, rfl⟩)
    go_ret
    exact ⟨rfl, rfl⟩

set_option maxHeartbeats 400000 in
theorem rplace_any (key par : Int) (w : World) :
    Calls Try.prog 27 #[.int .i64 key, .int .i64 par] w fun e w' => e = .returned (.int .i64 (placeOf key par)) ∧ w = w' := by
  by_cases h1 : par < 1
  · have e : placeOf key par = -1 := by unfold placeOf; rw [if_neg (by omega)]
    rw [e]; clear e
    go_enter Try.func27, Try.ntmps27
    go_wp2
    go_ret
    exact ⟨rfl, rfl⟩
  · by_cases h2 : 4 < par
    · have e : placeOf key par = -1 := by unfold placeOf; rw [if_neg (by omega)]
      rw [e]; clear e
      go_enter Try.func27, Try.ntmps27
      go_wp2
      go_ret
      exact ⟨rfl, rfl⟩
    · have e : placeOf key par = key % 8 * par / 8 := by unfold placeOf; rw [if_pos (by omega)]
      rw [e]; clear e
      obtain ⟨h3, h4⟩ := emod8 key
      have hp : 0 ≤ key % 8 * par := Int.mul_nonneg h3 (by omega)
      have hq : key % 8 * par ≤ 28 := by
        have := Int.mul_le_mul h4 (by omega : par ≤ 4) (by omega) (by omega)
        omega
      go_enter Try.func27, Try.ntmps27
      go_wp2_with fail
      refine (rof_any _ _).mono ?_
      rintro e w' ⟨rfl, rfl⟩
      go_wp2_with fail
      go_ret
      exact ⟨rfl, rfl⟩

/-- The first k groups that a place owns. -/
def owns (at_ par : Int) : Nat → List Int
  | 0 => []
  | k + 1 => if (k : Int) * par / 8 = at_ then owns at_ par k ++ [(k : Int)] else owns at_ par k

theorem owns_len (at_ par : Int) : ∀ k, (owns at_ par k).length ≤ k
  | 0 => by simp [owns]
  | k + 1 => by
    have := owns_len at_ par k
    unfold owns
    split
    · rw [List.length_append]; simp; omega
    · omega

theorem owns_yes (at_ par : Int) (k : Nat) (h : (k : Int) * par / 8 = at_) : owns at_ par (k + 1) = owns at_ par k ++ [(k : Int)] := by rw [owns, if_pos h]
theorem owns_no (at_ par : Int) (k : Nat) (h : ¬ (k : Int) * par / 8 = at_) : owns at_ par (k + 1) = owns at_ par k := by rw [owns, if_neg h]

theorem infoInt : (Try.prog.info? 3).map (fun i => (i.zero, i.size, i.bytes)) = some (some (.int .i64 0), 1, 8) := by kernel_rfl

theorem ints_snoc (xs : List Int) (x : Int) : ints xs ++ [Value.int .i64 x] = ints (xs ++ [x]) := by simp [ints]
theorem ints_len (xs : List Int) : (ints xs).length = xs.length := by simp [ints]

set_option maxHeartbeats 1000000 in
theorem gowns_any (at_ par : Int) (w : World) (h1 : 1 ≤ par) (h2 : par ≤ 4) :
    Calls Try.prog 23 #[.int .i64 at_, .int .i64 par] w fun e w' => ∃ v, e = .returned v ∧ Reads w' v (owns at_ par 8).length (ints (owns at_ par 8)) ∧ Below w.heap.size w w' := by
  obtain ⟨i0, hi, hz0, hz1, hz2⟩ := info_parts infoInt
  go_enter Try.func23, Try.ntmps23
  go_wp2
  go_loopw [5, 13] (fun v i wr => ∃ k : Nat, k ≤ 8 ∧ i = .int .i64 k ∧ wr.ownsRow w.heap.size 3 1 v (owns at_ par k).length (ints (owns at_ par k)) ∧ Below w.heap.size w wr) (fun _ i _ => 8 - (intOf i).toNat)
  case atStart => exact ⟨0, by omega, rfl, World.ownsRow_nil _ _ _ _, Below.refl _ _⟩
  case round =>
    obtain ⟨k, hk, rfl, hown, hb⟩ := hrel
    by_cases hlt : k < 8
    · have hl := owns_len at_ par k
      by_cases hy : (k : Int) * par / 8 = at_
      · have hyb : (((k : Int) * par / 8 : Int) == at_) = true := by simpa using hy
        have HY := Lib.hid hy
        clear hy
        go_wp2_with fail
        refine (gplaceI_any _ _ _ (by omega) (by omega) h1 h2).mono ?_
        rintro e w' ⟨rfl, rfl⟩
        go_wp2_with ((at_builtin; refine wpList_append_own _ rfl _ _ 39 rfl w.heap.size 3 i0 (.int .i64 0) 1 8 Try.underlying39 hi hz0 hz1 hz2 rfl (by decide) _ _ _ rfl (hown.alloc _) ⟨wr.heap.size, 0, none⟩ 1 1 [.int .i64 k] rfl rfl ?c1 ?c2 ?c3 ?c4 ?c5 ?_))
        case c1 => exact cell_one_new _ _ _
        case c2 => simp [Value.oneCell']
        case c3 => unfold maxLen; omega
        case c4 => omega
        case c5 => have := hb.size; simp; omega
        intro v' w' hown' hgr _
        have hb' := below_pushed hb hown _ hgr
        clear hgr
        go_wp2
        go_roundw
        case rel => exact ⟨k + 1, by omega, by go_num, by rw [owns_yes at_ par k HY.out, List.length_append, ← ints_snoc]; exact hown', hb'⟩
        case measure => simp [intOf]; omega
      · have hyb : (((k : Int) * par / 8 : Int) == at_) = false := by simpa using hy
        have HY := Lib.hid hy
        clear hy
        go_wp2_with fail
        refine (gplaceI_any _ _ _ (by omega) (by omega) h1 h2).mono ?_
        rintro e w' ⟨rfl, rfl⟩
        go_wp2
        go_roundw
        case rel => exact ⟨k + 1, by omega, by go_num, by rw [owns_no at_ par k HY.out]; exact hown, hb⟩
        case measure => simp [intOf]; omega
    · obtain rfl : k = 8 := by omega
      go_wp2
      go_ret
      exact ⟨_, rfl, Reads.own hown, hb⟩


set_option maxHeartbeats 1000000 in
theorem gowns_out (at_ par : Int) (w : World) (h : par < 1 ∨ 4 < par) :
    Calls Try.prog 23 #[.int .i64 at_, .int .i64 par] w fun e w' => e = .returned (.slice none 0 0) ∧ w = w' := by
  by_cases h1 : par < 1
  · clear h
    go_enter Try.func23, Try.ntmps23
    go_wp2
    go_ret
    exact ⟨rfl, rfl⟩
  · have h2 : 4 < par := by omega
    clear h
    go_enter Try.func23, Try.ntmps23
    go_wp2
    go_ret
    exact ⟨rfl, rfl⟩

/-- The first k groups that a place owns, by the reference. -/
def rowns (at_ par : Int) : Nat → List Int
  | 0 => []
  | k + 1 => if 0 ≤ at_ ∧ placeOf k par = at_ then rowns at_ par k ++ [(k : Int)] else rowns at_ par k

theorem rowns_len (at_ par : Int) : ∀ k, (rowns at_ par k).length ≤ k
  | 0 => by simp [rowns]
  | k + 1 => by
    have := rowns_len at_ par k
    unfold rowns
    split
    · rw [List.length_append]; simp; omega
    · omega

theorem rowns_yes (at_ par : Int) (k : Nat) (h0 : 0 ≤ at_) (h : placeOf k par = at_) : rowns at_ par (k + 1) = rowns at_ par k ++ [(k : Int)] := by rw [rowns, if_pos ⟨h0, h⟩]
theorem rowns_no (at_ par : Int) (k : Nat) (h : at_ < 0 ∨ ¬ placeOf k par = at_) : rowns at_ par (k + 1) = rowns at_ par k := by rw [rowns, if_neg (by omega)]

theorem rowns_in (at_ par : Int) (h1 : 1 ≤ par) (h2 : par ≤ 4) : ∀ k, k ≤ 8 → rowns at_ par k = owns at_ par k
  | 0, _ => rfl
  | k + 1, hk => by
    have ih := rowns_in at_ par h1 h2 k (by omega)
    have e : placeOf k par = (k : Int) * par / 8 := by
      unfold placeOf
      rw [if_pos ⟨h1, h2⟩]
      congr 2
      omega
    have hp : 0 ≤ (k : Int) * par := Int.mul_nonneg (by omega) (by omega)
    by_cases hy : (k : Int) * par / 8 = at_
    · rw [rowns_yes at_ par k (by omega) (by rw [e]; exact hy), owns_yes at_ par k hy, ih]
    · rw [rowns_no at_ par k (by rw [e]; exact .inr hy), owns_no at_ par k hy, ih]

theorem rowns_out (at_ par : Int) (h : par < 1 ∨ 4 < par) : ∀ k, rowns at_ par k = []
  | 0 => rfl
  | k + 1 => by
    have e : placeOf k par = -1 := by unfold placeOf; rw [if_neg (by omega)]
    rw [rowns_no at_ par k (by rw [e]; omega)]
    exact rowns_out at_ par h k

set_option maxHeartbeats 1000000 in
theorem refowns_any (at_ par : Int) (w : World) :
    Calls Try.prog 28 #[.int .i64 at_, .int .i64 par] w fun e w' => ∃ v, e = .returned v ∧ Reads w' v (rowns at_ par 8).length (ints (rowns at_ par 8)) ∧ Below w.heap.size w w' := by
  obtain ⟨i0, hi, hz0, hz1, hz2⟩ := info_parts infoInt
  go_enter Try.func28, Try.ntmps28
  go_wp2
  go_loopw [5, 6] (fun v i wr => ∃ k : Nat, k ≤ 8 ∧ i = .int .i64 k ∧ wr.ownsRow w.heap.size 3 1 v (rowns at_ par k).length (ints (rowns at_ par k)) ∧ Below w.heap.size w wr) (fun _ i _ => 8 - (intOf i).toNat)
  case atStart => exact ⟨0, by omega, rfl, World.ownsRow_nil _ _ _ _, Below.refl _ _⟩
  case round =>
    obtain ⟨k, hk, rfl, hown, hb⟩ := hrel
    by_cases hlt : k < 8
    · have hl := rowns_len at_ par k
      by_cases h0 : at_ < 0
      · go_wp2_with fail
        go_roundw
        case rel => exact ⟨k + 1, by omega, by go_num, by rw [rowns_no at_ par k (.inl h0)]; exact hown, hb⟩
        case measure => simp [intOf]; omega
      · by_cases hy : placeOf k par = at_
        · have hyb : ((placeOf (k : Int) par : Int) == at_) = true := by simpa using hy
          have HY := Lib.hid hy
          clear hy
          go_wp2_with fail
          refine (rplace_any _ _ _).mono ?_
          rintro e w' ⟨rfl, rfl⟩
          go_wp2_with ((at_builtin; refine wpList_append_own _ rfl _ _ 39 rfl w.heap.size 3 i0 (.int .i64 0) 1 8 Try.underlying39 hi hz0 hz1 hz2 rfl (by decide) _ _ _ rfl (hown.alloc _) ⟨wr.heap.size, 0, none⟩ 1 1 [.int .i64 k] rfl rfl ?c1 ?c2 ?c3 ?c4 ?c5 ?_))
          case c1 => exact cell_one_new _ _ _
          case c2 => simp [Value.oneCell']
          case c3 => unfold maxLen; omega
          case c4 => omega
          case c5 => have := hb.size; simp; omega
          intro v' w' hown' hgr _
          have hb' := below_pushed hb hown _ hgr
          clear hgr
          go_wp2
          go_roundw
          case rel => exact ⟨k + 1, by omega, by go_num, by rw [rowns_yes at_ par k (by omega) HY.out, List.length_append, ← ints_snoc]; exact hown', hb'⟩
          case measure => simp [intOf]; omega
        · have hyb : ((placeOf (k : Int) par : Int) == at_) = false := by simpa using hy
          have HY := Lib.hid hy
          clear hy
          go_wp2_with fail
          refine (rplace_any _ _ _).mono ?_
          rintro e w' ⟨rfl, rfl⟩
          go_wp2_with fail
          go_roundw
          case rel => exact ⟨k + 1, by omega, by go_num, by rw [rowns_no at_ par k (.inr HY.out)]; exact hown, hb⟩
          case measure => simp [intOf]; omega
    · obtain rfl : k = 8 := by omega
      go_wp2
      go_ret
      exact ⟨_, rfl, Reads.own hown, hb⟩

end Go.Proofs.Ytjacoadanpbgmaa
