/-
  The walks through GroupSame, GroupShares, GroupParts.
-/
import Derived.Test.YtjacoadanpbgmaaGroupLaws
namespace Go.Proofs.Ytjacoadanpbgmaa
open Go.RowKit

theorem gof_m (key m : Int) (w : World) (h : key % 8 = m) :
    Calls Try.prog 20 #[.int .i64 key] w fun e w' => e = .returned (.int .i64 m) ∧ w = w' := by
  rw [← h]; exact gof_any key w

theorem gpart_m (key m : Int) (w : World) (h : key % 8 = m) :
    Calls Try.prog 19 #[.int .i64 key] w fun e w' => e = .returned (.int .i64 (m / 4)) ∧ w = w' := by
  rw [← h]; exact gpart_any key w

def placeM (m par : Int) : Int := if 1 ≤ par ∧ par ≤ 4 then m * par / 8 else -1

theorem gplace_m (key m par : Int) (w : World) (h : key % 8 = m) :
    Calls Try.prog 21 #[.int .i64 key, .int .i64 par] w fun e w' => e = .returned (.int .i64 (placeM m par)) ∧ w = w' := by
  rw [← h]; exact gplace_any key par w

theorem mem_owns (at_ par : Int) (m : Nat) (h : (m : Int) * par / 8 = at_) : ∀ k, m < k → (m : Int) ∈ owns at_ par k
  | 0, hk => by omega
  | k + 1, hk => by
    by_cases e : m = k
    · subst e; rw [owns_yes at_ par m h]; simp
    · have ih := mem_owns at_ par m h k (by omega)
      by_cases hy : (k : Int) * par / 8 = at_
      · rw [owns_yes at_ par k hy]; exact List.mem_append_left _ ih
      · rw [owns_no at_ par k hy]; exact ih

theorem place_lt (m par : Int) (h0 : 0 ≤ m) (h7 : m ≤ 7) (h1 : 1 ≤ par) (h4 : par ≤ 4) : 0 ≤ m * par / 8 ∧ m * par / 8 < par := by
  have : par = 1 ∨ par = 2 ∨ par = 3 ∨ par = 4 := by omega
  rcases this with rfl | rfl | rfl | rfl <;> omega

theorem groupSame_walk (a b par : Int) (_w0 : (Lit.int .i64 a).wf = true) (_w1 : (Lit.int .i64 b).wf = true) (_w2 : (Lit.int .i64 par).wf = true) (w : World) :
    Calls Try.prog 12 #[.int .i64 a, .int .i64 b, .int .i64 par] w fun e w' => e = .returned (.bool true) ∧ Below w.heap.size w w' := by
  obtain ⟨ma, ha⟩ : ∃ m, a % 8 = m := ⟨_, rfl⟩
  obtain ⟨mb, hb⟩ : ∃ m, b % 8 = m := ⟨_, rfl⟩
  have ha0 : 0 ≤ ma ∧ ma ≤ 7 := by omega
  obtain ⟨ha0, ha7⟩ := ha0
  have HA := Lib.hid ha
  have HB := Lib.hid hb
  clear ha hb
  by_cases heq : ma = mb
  · subst heq
    by_cases hpar : 1 ≤ par ∧ par ≤ 4
    · obtain ⟨h1, h4⟩ := hpar
      obtain ⟨hp0, hpl⟩ := place_lt ma par ha0 ha7 h1 h4
      have hpm : placeM ma par = ma * par / 8 := by unfold placeM; rw [if_pos ⟨h1, h4⟩]
      obtain ⟨k, rfl⟩ : ∃ k : Nat, ma = k := ⟨ma.toNat, by omega⟩
      obtain ⟨pl, hpl2⟩ : ∃ pl, (k : Int) * par / 8 = pl := ⟨_, rfl⟩
      rw [hpl2] at hpm hp0 hpl
      have hmem : decide ((k : Int) ∈ owns pl par 8) = true := by
        rw [decide_eq_true_iff]; exact mem_owns pl par k hpl2 8 (by omega)
      have HM := Lib.hid hmem
      clear hpl2 hmem
      have HP := Lib.hid hpm
      clear hpm
      go_enter Try.func12, Try.ntmps12
      go_wp2_with fail
      refine (gof_m a _ _ HA.out).mono ?_
      rintro e w' ⟨rfl, rfl⟩
      go_wp2_with fail
      refine (gof_m b _ _ HB.out).mono ?_
      rintro e w' ⟨rfl, rfl⟩
      go_wp2_with fail
      refine (gpart_m a _ _ HA.out).mono ?_
      rintro e w' ⟨rfl, rfl⟩
      go_wp2_with fail
      refine (gpart_m b _ _ HB.out).mono ?_
      rintro e w' ⟨rfl, rfl⟩
      go_wp2_with fail
      refine (gplace_m a _ par _ HA.out).mono ?_
      rintro e w' ⟨rfl, rfl⟩
      rw [HP.out]
      go_wp2_with fail
      refine (gplace_m b _ par _ HB.out).mono ?_
      rintro e w' ⟨rfl, rfl⟩
      rw [HP.out]
      go_wp2_with fail
      refine (gplace_m a _ par _ HA.out).mono ?_
      rintro e w' ⟨rfl, rfl⟩
      rw [HP.out]
      go_wp2_with fail
      refine (gowns_any pl par _ h1 h4).mono ?_
      rintro e w1 ⟨v1, rfl, hr1, hb1⟩
      go_wp2_with fail
      refine (gof_m a _ _ HA.out).mono ?_
      rintro e w' ⟨rfl, rfl⟩
      go_wp2_with fail
      refine (containsInts_any _ _ _ _ hr1).mono ?_
      rintro e w' ⟨rfl, rfl⟩
      rw [HM.out]
      clear hr1
      go_wp2_with fail
      refine (gworks_any _).mono ?_
      rintro e w' ⟨rfl, rfl⟩
      go_wp2_with fail
      go_ret
      exact ⟨rfl, hb1⟩
    · have hpm : placeM ma par = -1 := by unfold placeM; rw [if_neg hpar]
      have HP := Lib.hid hpm
      clear hpm
      by_cases h1 : par < 1
      · clear hpar
        go_enter Try.func12, Try.ntmps12
        go_wp2_with fail
        refine (gof_m a _ _ HA.out).mono ?_
        rintro e w' ⟨rfl, rfl⟩
        go_wp2_with fail
        refine (gof_m b _ _ HB.out).mono ?_
        rintro e w' ⟨rfl, rfl⟩
        go_wp2_with fail
        refine (gpart_m a _ _ HA.out).mono ?_
        rintro e w' ⟨rfl, rfl⟩
        go_wp2_with fail
        refine (gpart_m b _ _ HB.out).mono ?_
        rintro e w' ⟨rfl, rfl⟩
        go_wp2_with fail
        refine (gplace_m a _ par _ HA.out).mono ?_
        rintro e w' ⟨rfl, rfl⟩
        rw [HP.out]
        go_wp2_with fail
        refine (gplace_m b _ par _ HB.out).mono ?_
        rintro e w' ⟨rfl, rfl⟩
        rw [HP.out]
        go_wp2_with fail
        refine (gplace_m a _ par _ HA.out).mono ?_
        rintro e w' ⟨rfl, rfl⟩
        rw [HP.out]
        go_wp2_with fail
        refine (gworks_any _).mono ?_
        rintro e w' ⟨rfl, rfl⟩
        go_wp2_with fail
        go_ret
        exact ⟨rfl, Below.refl _ _⟩
      · have h4 : 4 < par := by omega
        clear hpar
        go_enter Try.func12, Try.ntmps12
        go_wp2_with fail
        refine (gof_m a _ _ HA.out).mono ?_
        rintro e w' ⟨rfl, rfl⟩
        go_wp2_with fail
        refine (gof_m b _ _ HB.out).mono ?_
        rintro e w' ⟨rfl, rfl⟩
        go_wp2_with fail
        refine (gpart_m a _ _ HA.out).mono ?_
        rintro e w' ⟨rfl, rfl⟩
        go_wp2_with fail
        refine (gpart_m b _ _ HB.out).mono ?_
        rintro e w' ⟨rfl, rfl⟩
        go_wp2_with fail
        refine (gplace_m a _ par _ HA.out).mono ?_
        rintro e w' ⟨rfl, rfl⟩
        rw [HP.out]
        go_wp2_with fail
        refine (gplace_m b _ par _ HB.out).mono ?_
        rintro e w' ⟨rfl, rfl⟩
        rw [HP.out]
        go_wp2_with fail
        refine (gplace_m a _ par _ HA.out).mono ?_
        rintro e w' ⟨rfl, rfl⟩
        rw [HP.out]
        go_wp2_with fail
        refine (gworks_any _).mono ?_
        rintro e w' ⟨rfl, rfl⟩
        go_wp2_with fail
        go_ret
        exact ⟨rfl, Below.refl _ _⟩
  · have hne : ((ma : Int) == mb) = false := by simpa using heq
    clear heq
    by_cases hpar : 1 ≤ par ∧ par ≤ 4
    · obtain ⟨h1, h4⟩ := hpar
      obtain ⟨hp0, hpl⟩ := place_lt ma par ha0 ha7 h1 h4
      have hpm : placeM ma par = ma * par / 8 := by unfold placeM; rw [if_pos ⟨h1, h4⟩]
      obtain ⟨k, rfl⟩ : ∃ k : Nat, ma = k := ⟨ma.toNat, by omega⟩
      obtain ⟨pl, hpl2⟩ : ∃ pl, (k : Int) * par / 8 = pl := ⟨_, rfl⟩
      rw [hpl2] at hpm hp0 hpl
      have hmem : decide ((k : Int) ∈ owns pl par 8) = true := by
        rw [decide_eq_true_iff]; exact mem_owns pl par k hpl2 8 (by omega)
      have HM := Lib.hid hmem
      clear hpl2 hmem
      have HP := Lib.hid hpm
      clear hpm
      go_enter Try.func12, Try.ntmps12
      go_wp2_with fail
      refine (gof_m a _ _ HA.out).mono ?_
      rintro e w' ⟨rfl, rfl⟩
      go_wp2_with fail
      refine (gof_m b _ _ HB.out).mono ?_
      rintro e w' ⟨rfl, rfl⟩
      go_wp2_with fail
      refine (gplace_m a _ par _ HA.out).mono ?_
      rintro e w' ⟨rfl, rfl⟩
      rw [HP.out]
      go_wp2_with fail
      refine (gowns_any pl par _ h1 h4).mono ?_
      rintro e w1 ⟨v1, rfl, hr1, hb1⟩
      go_wp2_with fail
      refine (gof_m a _ _ HA.out).mono ?_
      rintro e w' ⟨rfl, rfl⟩
      go_wp2_with fail
      refine (containsInts_any _ _ _ _ hr1).mono ?_
      rintro e w' ⟨rfl, rfl⟩
      rw [HM.out]
      clear hr1
      go_wp2_with fail
      refine (gworks_any _).mono ?_
      rintro e w' ⟨rfl, rfl⟩
      go_wp2_with fail
      go_ret
      exact ⟨rfl, hb1⟩
    · have hpm : placeM ma par = -1 := by unfold placeM; rw [if_neg hpar]
      have HP := Lib.hid hpm
      clear hpm
      by_cases h1 : par < 1
      · clear hpar
        go_enter Try.func12, Try.ntmps12
        go_wp2_with fail
        refine (gof_m a _ _ HA.out).mono ?_
        rintro e w' ⟨rfl, rfl⟩
        go_wp2_with fail
        refine (gof_m b _ _ HB.out).mono ?_
        rintro e w' ⟨rfl, rfl⟩
        go_wp2_with fail
        refine (gplace_m a _ par _ HA.out).mono ?_
        rintro e w' ⟨rfl, rfl⟩
        rw [HP.out]
        go_wp2_with fail
        refine (gworks_any _).mono ?_
        rintro e w' ⟨rfl, rfl⟩
        go_wp2_with fail
        go_ret
        exact ⟨rfl, Below.refl _ _⟩
      · have h4 : 4 < par := by omega
        clear hpar
        go_enter Try.func12, Try.ntmps12
        go_wp2_with fail
        refine (gof_m a _ _ HA.out).mono ?_
        rintro e w' ⟨rfl, rfl⟩
        go_wp2_with fail
        refine (gof_m b _ _ HB.out).mono ?_
        rintro e w' ⟨rfl, rfl⟩
        go_wp2_with fail
        refine (gplace_m a _ par _ HA.out).mono ?_
        rintro e w' ⟨rfl, rfl⟩
        rw [HP.out]
        go_wp2_with fail
        refine (gworks_any _).mono ?_
        rintro e w' ⟨rfl, rfl⟩
        go_wp2_with fail
        go_ret
        exact ⟨rfl, Below.refl _ _⟩

def shares (par : Int) : Nat → List Int
  | 0 => []
  | k + 1 => shares par k ++ owns k par 8

theorem owned_some : ∀ p : Fin 5, 1 ≤ p.val → ∀ k : Fin 4, k.val < p.val → 0 < (owns k.val p.val 8).length := by decide
theorem shares_all : ∀ p : Fin 5, 1 ≤ p.val → shares p.val p.val = [0, 1, 2, 3, 4, 5, 6, 7] := by decide
theorem owned_over : ∀ p : Fin 5, 1 ≤ p.val → owns p.val p.val 8 = [] ∧ owns (-1) p.val 8 = [] := by decide
theorem shares_len (par : Int) : ∀ k, (shares par k).length ≤ 8 * k
  | 0 => by simp [shares]
  | k + 1 => by
    have := shares_len par k
    have h := owns_len k par 8
    unfold shares
    rw [List.length_append]; omega

theorem ints_append (a b : List Int) : ints (a ++ b) = ints a ++ ints b := by simp [ints]

set_option maxHeartbeats 1000000 in
theorem groupShares_in (p : Nat) (w : World) (h1 : 1 ≤ p) (h4 : p ≤ 4) :
    Calls Try.prog 9 #[.int .i64 p] w fun e w' => e = .returned (.bool true) ∧ Below w.heap.size w w' := by
  obtain ⟨i0, hi, hz0, hz1, hz2⟩ := info_parts infoInt
  have HA := Lib.hid (shares_all ⟨p, by omega⟩ h1)
  have HO := Lib.hid (owned_over ⟨p, by omega⟩ h1)
  have HS := Lib.hid (owned_some ⟨p, by omega⟩ h1)
  go_enter Try.func9, Try.ntmps9
  go_wp2_with fail
  go_loopw [3, 5, 20] (fun v u i wr => ∃ k : Nat, k ≤ p ∧ i = .int .i64 k ∧ wr.ownsRow w.heap.size 3 1 v (shares p k).length (ints (shares p k)) ∧ Below w.heap.size w wr) (fun _ _ i _ => p - (intOf i).toNat)
  case atStart => exact ⟨0, by omega, rfl, World.ownsRow_nil _ _ _ _, Below.refl _ _⟩
  case round =>
    obtain ⟨k, hk, rfl, hown, hb⟩ := hrel
    by_cases hlt : k < p
    · have hl := shares_len p k
      have hl2 := owns_len k p 8
      have hpos := HS.out ⟨k, by omega⟩ hlt
      simp only at hpos
      go_wp2_with fail
      refine (gowns_any k p _ (by omega) (by omega)).mono ?_
      rintro e w1 ⟨v1, rfl, hr1, hb1⟩
      obtain ⟨b1, o1, c1, rfl, -, -, -, hc1⟩ := hr1.some hpos
      have hown1 := own_below hown hb1
      have hlt1 := hown1.lt
      have HC := Lib.hid hc1
      have HL := Lib.hid hlt1
      clear hc1 hr1 hlt1
      have hB : w.heap.size ≤ w1.heap.size := Nat.le_trans hb.size hb1.size
      go_wp2_with ((at_builtin; refine wpList_append_own _ rfl _ _ 39 rfl w.heap.size 3 i0 (.int .i64 0) 1 8 Try.underlying39 hi hz0 hz1 hz2 rfl (by decide) _ _ _ rfl hown1 ⟨b1, o1, none⟩ (owns k p 8).length c1 (ints (owns k p 8)) rfl ?c0 ?c1 ?c2 ?c3 ?c4 ?c5 ?_))
      case c0 => simp [ints]
      case c1 => intro j u hu; rw [addr_add]; exact HC.out j u hu
      case c2 => exact ints_one _
      case c3 => unfold maxLen; omega
      case c4 => omega
      case c5 => exact hB
      intro v' w' hown' hgr _
      have hb' := (hb.trans (hb1.mono hb.size)).grown hgr hB (fun q hq => (HL.out q hq).1)
      clear hgr
      go_wp2
      go_roundw
      case rel => exact ⟨k + 1, by omega, by go_num, by rw [show shares p (k + 1) = shares p k ++ owns k p 8 from rfl, List.length_append, ints_append]; exact hown', hb'⟩
      case measure => simp [intOf]; omega
    · obtain rfl : k = p := by omega
      have ha : shares (k : Int) k = [0, 1, 2, 3, 4, 5, 6, 7] := HA.out
      rw [ha] at hown
      have hr := Reads.own hown
      clear hown ha
      go_wp2_with fail
      refine (eqInts_any _ _ [0, 1, 2, 3, 4, 5, 6, 7] [0, 1, 2, 3, 4, 5, 6, 7] _ (hr.alloc _) (Reads.lit _ _ _ 8 _ (by simp) (by simp [maxLen]))).mono ?_
      rintro e w' ⟨rfl, n1, rfl⟩
      clear hr
      go_wp2_with fail
      refine (gowns_any k k _ (by omega) (by omega)).mono ?_
      rintro e w2 ⟨v2, rfl, hr2, hb2⟩
      rw [show owns (k : Int) k 8 = [] from HO.out.1] at hr2
      obtain ⟨a2, c2, rfl⟩ := hr2.shape
      clear hr2
      go_wp2_with fail
      refine (gowns_any (-1) k _ (by omega) (by omega)).mono ?_
      rintro e w3 ⟨v3, rfl, hr3, hb3⟩
      rw [show owns (-1) (k : Int) 8 = [] from HO.out.2] at hr3
      obtain ⟨a3, c3, rfl⟩ := hr3.shape
      clear hr3
      go_wp2_with fail
      refine (gworks_any _).mono ?_
      rintro e w' ⟨rfl, rfl⟩
      go_wp2_with fail
      go_ret
      exact ⟨rfl, hb.trans ((bel_trans (bel_alloc_drewN _ _ _) (bel_trans hb2 hb3)).mono hb.size)⟩

theorem groupShares_walk (par : Int) (_w0 : (Lit.int .i64 par).wf = true) (w : World) :
    Calls Try.prog 9 #[.int .i64 par] w fun e w' => e = .returned (.bool true) ∧ Below w.heap.size w w' := by
  by_cases h : par < 1 ∨ 4 < par
  · by_cases h1 : par < 1
    · go_enter Try.func9, Try.ntmps9
      go_wp2_with fail
      refine (gowns_out 0 par _ h).mono ?_
      rintro e w' ⟨rfl, rfl⟩
      clear h
      go_wp2_with fail
      refine (gworks_any _).mono ?_
      rintro e w' ⟨rfl, rfl⟩
      go_wp2_with fail
      go_ret
      exact ⟨rfl, Below.refl _ _⟩
    · have h4 : 4 < par := by omega
      go_enter Try.func9, Try.ntmps9
      go_wp2_with fail
      refine (gowns_out 0 par _ h).mono ?_
      rintro e w' ⟨rfl, rfl⟩
      clear h
      go_wp2_with fail
      refine (gworks_any _).mono ?_
      rintro e w' ⟨rfl, rfl⟩
      go_wp2_with fail
      go_ret
      exact ⟨rfl, Below.refl _ _⟩
  · obtain ⟨p, rfl⟩ : ∃ p : Nat, par = p := ⟨par.toNat, by omega⟩
    exact groupShares_in p w (by omega) (by omega)


theorem xor8_nat (n : Nat) : (n ^^^ 8) % 8 = n % 8 := by
  have h := @Nat.xor_mod_two_pow n 8 3
  simpa using h
theorem xor8_bv (key : Int) : ((BitVec.ofInt 64 key ^^^ 8#64).toNat : Int) % 8 = key % 8 := by
  have h2 : (((BitVec.ofInt 64 key).toNat : Nat) : Int) = key % 18446744073709551616 := by
    rw [BitVec.toNat_ofInt, Int.toNat_of_nonneg (Int.emod_nonneg _ (by decide))]; rfl
  rw [BitVec.toNat_xor]
  have h := xor8_nat (BitVec.ofInt 64 key).toNat
  rw [show (8#64).toNat = 8 from rfl]
  generalize (BitVec.ofInt 64 key).toNat = N at *
  generalize N ^^^ 8 = X at *
  omega
theorem wrapped8 (X K : Int) (h : X % 8 = K % 8) : (if 9223372036854775808 ≤ X % 18446744073709551616 then X % 18446744073709551616 - 18446744073709551616 else X % 18446744073709551616) % 8 = K % 8 := by split <;> omega
theorem xor8 (key : Int) : (bits .xor .i64 key 8) % 8 = key % 8 := by
  unfold bits
  have h := xor8_bv key
  simp [IntKind.bits, IntKind.signed, IntKind.wrap]
  exact wrapped8 _ _ h

theorem eq44 (w : World) : (Op.equalIn 10000 35 (.agg #[.int .i64 4, .int .i64 4]) (.agg #[.int .i64 4, .int .i64 4])).run Try.prog w = .ok true w := by kernel_rfl

set_option maxHeartbeats 1000000 in
theorem groupParts_walk (key par : Int) (_w0 : (Lit.int .i64 key).wf = true) (_w1 : (Lit.int .i64 par).wf = true) (w : World) :
    Calls Try.prog 8 #[.int .i64 key, .int .i64 par] w fun e w' => e = .returned (.bool true) ∧ Below w.heap.size w w' := by
  obtain ⟨m, hm⟩ : ∃ m, key % 8 = m := ⟨_, rfl⟩
  have hx := xor8 key
  rw [hm] at hx
  have HM := Lib.hid hm
  clear hm
  generalize hk2 : bits .xor .i64 key 8 = key2 at *
  have HX := Lib.hid hx
  clear hx
  have h44 := eq44
  go_enter Try.func8, Try.ntmps8
  go_wp2_with fail
  go_loopw [6, 7, 10] (fun _ _ i wr => ∃ k x y : Nat, k ≤ 8 ∧ i = .int .i64 k ∧ x ≤ 8 ∧ y ≤ 8 ∧ (x + y = k ∧ (x = 4 ∨ y = 0) ∧ x ≤ 4) ∧ wr = w.alloc (.cells #[.int .i64 x, .int .i64 y] 35)) (fun _ _ i _ => 8 - (intOf i).toNat)
  case atStart => exact ⟨0, 0, 0, by omega, rfl, by omega, by omega, by omega, rfl⟩
  case round =>
    obtain ⟨k, x, y, hk, rfl, hx8, hy8, hxy, rfl⟩ := hrel
    by_cases hlt : k < 8
    · by_cases h4 : k < 4
      · obtain ⟨rfl, rfl⟩ : y = 0 ∧ x = k := by omega
        clear hxy hx8 hy8
        go_wp2_with fail
        refine (gpart_m (x : Int) x _ (by omega)).mono ?_
        rintro e w' ⟨rfl, rfl⟩
        have hp : (x : Int) / 4 = 0 := by omega
        rw [hp]
        clear hp
        go_wp2_with fail
        go_roundw
        case rel => exact ⟨x + 1, x + 1, 0, by omega, by go_num, by omega, by omega, by omega, by first | rfl | simp⟩
        case measure => simp [intOf]; omega
      · obtain ⟨rfl, hyk⟩ : x = 4 ∧ y + 4 = k := by omega
        clear hxy hx8
        go_wp2_with fail
        refine (gpart_m (k : Int) k _ (by omega)).mono ?_
        rintro e w' ⟨rfl, rfl⟩
        have hp : (k : Int) / 4 = 1 := by omega
        rw [hp]
        clear hp
        go_wp2_with fail
        go_roundw
        case rel => exact ⟨k + 1, 4, y + 1, by omega, by go_num, by omega, by omega, by omega, by first | rfl | simp⟩
        case measure => simp [intOf]; omega
    · obtain ⟨rfl, rfl, rfl⟩ : k = 8 ∧ x = 4 ∧ y = 4 := by omega
      clear hxy hx8 hy8
      go_wp2_with fail
      refine (gof_m key _ _ HM.out).mono ?_
      rintro e w' ⟨rfl, rfl⟩
      go_wp2_with fail
      refine (gof_m key2 _ _ HX.out).mono ?_
      rintro e w' ⟨rfl, rfl⟩
      go_wp2_with fail
      refine (gpart_m key _ _ HM.out).mono ?_
      rintro e w' ⟨rfl, rfl⟩
      go_wp2_with fail
      refine (gpart_m key2 _ _ HX.out).mono ?_
      rintro e w' ⟨rfl, rfl⟩
      go_wp2_with fail
      refine (gplace_m key _ par _ HM.out).mono ?_
      rintro e w' ⟨rfl, rfl⟩
      go_wp2_with fail
      refine (gplace_m key2 _ par _ HX.out).mono ?_
      rintro e w' ⟨rfl, rfl⟩
      go_wp2_with fail
      refine (gworks_any _).mono ?_
      rintro e w' ⟨rfl, rfl⟩
      go_wp2_with fail
      go_ret
      exact ⟨rfl, bel_alloc _ _⟩

end Go.Proofs.Ytjacoadanpbgmaa
