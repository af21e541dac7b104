/-
  The walks through names: letter, later, Name, Many, At; and the reference's letter.
-/
import Derived.Test.YtpmelloanohlkaaNamesPlain
namespace Go.Proofs.Ytpmelloanohlkaa
open Go.RowKit

theorem letter_any (r : Int) (w : World) : Calls Try.prog 22 #[.int .i32 r] w fun e w' => e = .returned (.bool (Cl.letter r)) ∧ w = w' := by
  go_enter Try.func22, Try.ntmps22
  go_wp2_with fail
  all_goals (go_ret; refine ⟨ret_bool ?_, rfl⟩; unfold Cl.letter; rw [Bool.eq_iff_iff]; simp <;> omega)

theorem refletter_any (r : Int) (w : World) : Calls Try.prog 24 #[.int .i32 r] w fun e w' => e = .returned (.bool (Cl.letter r)) ∧ w = w' := by
  go_enter Try.func24, Try.ntmps24
  go_wp2_with fail
  all_goals (go_ret; refine ⟨ret_bool ?_, rfl⟩; unfold Cl.letter; rw [Bool.eq_iff_iff]; simp <;> omega)

theorem later_any (r : Int) (w : World) : Calls Try.prog 23 #[.int .i32 r] w fun e w' => e = .returned (.bool (Cl.later r)) ∧ w = w' := by
  cases hl : Cl.letter r with
  | true =>
    go_enter Try.func23, Try.ntmps23
    go_wp2_with fail
    refine (letter_any r _).mono ?_
    rintro e w' ⟨rfl, rfl⟩
    rw [hl]
    go_wp2_with fail
    go_ret
    exact ⟨ret_bool (by simp [Cl.later, hl]), rfl⟩
  | false =>
    go_enter Try.func23, Try.ntmps23
    go_wp2_with fail
    refine (letter_any r _).mono ?_
    rintro e w' ⟨rfl, rfl⟩
    rw [hl]
    go_wp2_with fail
    all_goals (go_ret; refine ⟨ret_bool ?_, rfl⟩; unfold Cl.later; rw [hl, Bool.eq_iff_iff]; simp <;> omega)


theorem rune_next (w : World) (k : Nat) (s : ByteArray) (pos : Nat) (hk : w.heap[k]? = some (.stringIter s pos)) (h : pos < s.size) (ty : TypeId) :
    (Instr.next (.pointer (some ⟨k, 0, none⟩)) true ty).run Try.prog w = .ok (.tuple #[.bool true, .int .i64 pos, .int .i32 (Utf8.decode s pos).1]) (w.iterAt k s (pos + (Utf8.decode s pos).2)) := Lib.run_next_any_at w k s pos ty hk h
theorem rune_end (w : World) (k : Nat) (s : ByteArray) (pos : Nat) (hk : w.heap[k]? = some (.stringIter s pos)) (h : ¬ pos < s.size) (ty : TypeId) :
    (Instr.next (.pointer (some ⟨k, 0, none⟩)) true ty).run Try.prog w = .ok (.tuple #[.bool false]) w := Lib.run_next_end_at w k s pos ty hk h

set_option maxHeartbeats 400000 in
theorem many_any (s : ByteArray) (w : World) (hs : s.size ≤ 140737488351232) :
    Calls Try.prog 18 #[.string s] w fun e w' => e = .returned (.int .i64 (Cl.runes s).length) ∧ Below w.heap.size w w' := by
  go_enter Try.func18, Try.ntmps18
  go_wp2
  go_loopw [3] (fun n wr => ∃ (pre : List (Nat × Nat)) (pos : Nat), n = .int .i64 pre.length ∧ wr.heap[w.heap.size]? = some (.stringIter s pos) ∧ Below w.heap.size w wr ∧ Hid (Cl.At s pre pos)) (fun _ wr => s.size - wr.iterPos w.heap.size)
  case atStart =>
    refine ⟨[], 0, rfl, ?_, (Below.refl _ w).alloc (Nat.le_refl _) _, Lib.hid (Cl.At.start s)⟩
    have := World.iter_heap w s 0
    simpa using this
  case round =>
    obtain ⟨pre, pos, rfl, hit, hbw, HA⟩ := hrel
    by_cases hp : pos < s.size
    · have hnx := rune_next wr w.heap.size s pos hit hp
      have hwd := Cl.width_pos s pos hp
      have hln := HA.out.len
      have hit2 := Lib.iterAt_heap wr w.heap.size s pos (pos + (Utf8.decode s pos).2) hit
      have hbw2 := Lib.below_iterAt hbw (k := w.heap.size) (Nat.le_refl _) s (pos + (Utf8.decode s pos).2)
      go_wp2
      go_roundw
      case rel => exact ⟨pre ++ [(pos, (Utf8.decode s pos).1)], _, by simp <;> go_num, hit2, hbw2, Lib.hid (HA.out.next hp)⟩
      case measure =>
        simp only [World.iterPos, hit2, hit]
        omega
    · have hnx := rune_end wr w.heap.size s pos hit hp
      go_wp2
      go_ret
      rw [HA.out.done hp]
      exact ⟨rfl, hbw⟩

set_option maxHeartbeats 1000000 in
theorem name_any (s : ByteArray) (w : World) (hs : s.size ≤ 140737488351232) :
    Calls Try.prog 16 #[.string s] w fun e w' => e = .returned (.bool (Cl.name s)) ∧ Below w.heap.size w w' := by
  go_enter Try.func16, Try.ntmps16
  go_wp2
  go_loopw [3] (fun n wr => ∃ (pre : List (Nat × Nat)) (pos : Nat), n = .int .i64 pre.length ∧ wr.heap[w.heap.size]? = some (.stringIter s pos) ∧ Below w.heap.size w wr ∧ Hid (Cl.At s pre pos) ∧ Hid (Cl.goes pre = true)) (fun _ wr => s.size - wr.iterPos w.heap.size)
  case atStart =>
    refine ⟨[], 0, rfl, ?_, (Below.refl _ w).alloc (Nat.le_refl _) _, Lib.hid (Cl.At.start s), Lib.hid rfl⟩
    have := World.iter_heap w s 0
    simpa using this
  case round =>
    obtain ⟨pre, pos, rfl, hit, hbw, HA, HG⟩ := hrel
    by_cases hp : pos < s.size
    · have hnx := rune_next wr w.heap.size s pos hit hp
      have hwd := Cl.width_pos s pos hp
      have hln := HA.out.len
      have hit2 := Lib.iterAt_heap wr w.heap.size s pos (pos + (Utf8.decode s pos).2) hit
      have hbw2 := Lib.below_iterAt hbw (k := w.heap.size) (Nat.le_refl _) s (pos + (Utf8.decode s pos).2)
      have hsn := Cl.goes_snoc pre (pos, (Utf8.decode s pos).1)
      rw [HG.out, Bool.true_and] at hsn
      have hbad : Cl.goes (pre ++ [(pos, (Utf8.decode s pos).1)]) = false → Cl.name s = false := by
        intro h
        obtain ⟨rest, hr⟩ := HA.out.here hp
        rw [Cl.name_eq, hr, show pre ++ (pos, (Utf8.decode s pos).1) :: rest = (pre ++ [(pos, (Utf8.decode s pos).1)]) ++ rest by simp, Cl.goes_bad _ _ h, Bool.false_and]
      have HS := Lib.hid hsn
      have HB := Lib.hid hbad
      clear hsn hbad
      by_cases h0 : pre.length = 0
      · have h0' : ((pre.length : Int) == 0) = true := by simp [h0]
        cases hl : Cl.letter (Utf8.decode s pos).1 with
        | false =>
          go_wp2_with fail
          refine (letter_any _ _).mono ?_
          rintro e w' ⟨rfl, rfl⟩
          rw [hl]
          go_wp2
          go_ret
          exact ⟨ret_bool (HB.out (by rw [HS.out]; simp [h0, hl])).symm, hbw2⟩
        | true =>
          go_wp2_with fail
          refine (letter_any _ _).mono ?_
          rintro e w' ⟨rfl, rfl⟩
          rw [hl]
          cases hl2 : Cl.later (Utf8.decode s pos).1 with
          | false =>
            go_wp2_with fail
            refine (later_any _ _).mono ?_
            rintro e w' ⟨rfl, rfl⟩
            rw [hl2]
            go_wp2
            go_ret
            exact ⟨ret_bool (HB.out (by rw [HS.out]; simp [h0, hl, hl2])).symm, hbw2⟩
          | true =>
            go_wp2_with fail
            refine (later_any _ _).mono ?_
            rintro e w' ⟨rfl, rfl⟩
            rw [hl2]
            go_wp2
            go_roundw
            case rel => exact ⟨pre ++ [(pos, (Utf8.decode s pos).1)], _, by simp <;> go_num, hit2, hbw2, Lib.hid (HA.out.next hp), Lib.hid (by rw [HS.out]; simp [h0, hl, hl2])⟩
            case measure =>
              simp only [World.iterPos, hit2, hit]
              omega
      · have h0' : ((pre.length : Int) == 0) = false := by simp [h0]
        cases hl : Cl.later (Utf8.decode s pos).1 with
        | false =>
          go_wp2_with fail
          refine (later_any _ _).mono ?_
          rintro e w' ⟨rfl, rfl⟩
          rw [hl]
          go_wp2
          go_ret
          exact ⟨ret_bool (HB.out (by rw [HS.out]; simp [h0, hl])).symm, hbw2⟩
        | true =>
          go_wp2_with fail
          refine (later_any _ _).mono ?_
          rintro e w' ⟨rfl, rfl⟩
          rw [hl]
          go_wp2
          go_roundw
          case rel => exact ⟨pre ++ [(pos, (Utf8.decode s pos).1)], _, by simp <;> go_num, hit2, hbw2, Lib.hid (HA.out.next hp), Lib.hid (by rw [HS.out]; simp [h0, hl])⟩
          case measure =>
            simp only [World.iterPos, hit2, hit]
            omega
    · have hnx := rune_end wr w.heap.size s pos hit hp
      have hd := HA.out.done hp
      have hn : Cl.name s = (true && decide (0 < pre.length ∧ pre.length ≤ 24)) := by rw [Cl.name_eq, ← hd, HG.out]
      have HN := Lib.hid hn
      clear hn hd
      by_cases h1 : 0 < pre.length
      · by_cases h2 : pre.length ≤ 24
        · go_wp2
          go_ret
          exact ⟨ret_bool (by rw [HN.out, decide_eq_true (show 0 < pre.length ∧ pre.length ≤ 24 from ⟨h1, h2⟩)]; simp <;> omega), hbw⟩
        · go_wp2
          go_ret
          exact ⟨ret_bool (by rw [HN.out, decide_eq_false (by omega)]; simp <;> omega), hbw⟩
      · go_wp2
        go_ret
        exact ⟨ret_bool (by rw [HN.out, decide_eq_false (by omega)]; simp <;> omega), hbw⟩

theorem At_get (s : ByteArray) (pre rest : List (Nat × Nat)) (x : Nat × Nat) (n : Nat) (h : Cl.runes s = pre ++ x :: rest) (hn : pre.length = n) : (Cl.runes s)[n]? = some x := by
  rw [h, ← hn]; simp

/-- What names.At tells. -/
def AtSays (s : ByteArray) (n : Int) (w : World) (e : Ending) (w' : World) : Prop :=
  (∃ r p c : Int, e = .returned (.tuple #[.int .i32 r, .int .i64 p, .int .i64 c]) ∧
    ((∃ x, 0 ≤ n ∧ (Cl.runes s)[n.toNat]? = some x ∧ r = x.2 ∧ p = x.1 ∧ c = 0) ∨ ((n < 0 ∨ (Cl.runes s).length ≤ n) ∧ r = 0 ∧ p = 0 ∧ c = 2))) ∧ Below w.heap.size w w'


/-- n, counted down k times. -/
def dn (n : Int) (k : Nat) : Int := wrap64 (n - k)
theorem dn_zero (n : Int) (h : -(2 : Int) ^ 63 ≤ n ∧ n ≤ (2 : Int) ^ 63 - 1) : dn n 0 = n := by
  unfold dn wrap64; omega
theorem dn_step (n : Int) (k : Nat) : wrap64 (dn n k - 1) = dn n (k + 1) := by
  unfold dn wrap64; omega
theorem dn_is (n : Int) (k : Nat) (h : -(2 : Int) ^ 63 ≤ n ∧ n ≤ (2 : Int) ^ 63 - 1) (hk : k ≤ 140737488351232) : dn n k = 0 ↔ n = k := by
  unfold dn wrap64; omega

set_option maxHeartbeats 400000 in
theorem at_any (s : ByteArray) (n : Int) (w : World) (hs : s.size ≤ 140737488351232) (hn : (Lit.int .i64 n).wf = true) :
    Calls Try.prog 14 #[.string s, .int .i64 n] w (AtSays s n w) := by
  have HB := Lib.hid (wf64 hn)
  have hz := dn_zero n HB.out
  clear hn
  go_enter Try.func14, Try.ntmps14
  go_wp2
  go_loopw [1] (fun m wr => ∃ (pre : List (Nat × Nat)) (pos : Nat), m = .int .i64 (dn n pre.length) ∧ wr.heap[w.heap.size]? = some (.stringIter s pos) ∧ Below w.heap.size w wr ∧ Hid (Cl.At s pre pos) ∧ Hid (n < 0 ∨ (pre.length : Int) ≤ n)) (fun _ wr => s.size - wr.iterPos w.heap.size)
  case atStart =>
    refine ⟨[], 0, by rw [List.length_nil, hz], ?_, (Below.refl _ w).alloc (Nat.le_refl _) _, Lib.hid (Cl.At.start s), Lib.hid (by simp; omega)⟩
    have := World.iter_heap w s 0
    simpa using this
  case round =>
    obtain ⟨pre, pos, rfl, hit, hbw, HA, HN⟩ := hrel
    clear hz
    have hln := HA.out.len
    by_cases hp : pos < s.size
    · have hnx := rune_next wr w.heap.size s pos hit hp
      have hwd := Cl.width_pos s pos hp
      have hit2 := Lib.iterAt_heap wr w.heap.size s pos (pos + (Utf8.decode s pos).2) hit
      have hbw2 := Lib.below_iterAt hbw (k := w.heap.size) (Nat.le_refl _) s (pos + (Utf8.decode s pos).2)
      have HI := Lib.hid (dn_is n pre.length HB.out (by omega))
      have HW := Lib.hid (dn_step n pre.length)
      by_cases h0 : dn n pre.length = 0
      · have hn0 := HI.out.1 h0
        have HN0 := Lib.hid hn0
        clear hn0
        have hb0 : (dn n pre.length == 0) = true := by simp [h0]
        go_wp2
        go_ret3
        obtain ⟨rest, hr⟩ := HA.out.here hp
        have e := HN0.out
        refine ⟨⟨_, _, _, rfl, .inl ⟨_, by omega, At_get s pre rest _ n.toNat hr (by omega), rfl, rfl, rfl⟩⟩, hbw2⟩
      · have hb0 : (dn n pre.length == 0) = false := by simp [h0]
        go_wp2
        go_roundw
        case rel =>
          refine ⟨pre ++ [(pos, (Utf8.decode s pos).1)], _, ?_, hit2, hbw2, Lib.hid (HA.out.next hp), Lib.hid ?_⟩
          · rw [List.length_append, List.length_singleton, ← HW.out]
          · have := HN.out
            have : n ≠ pre.length := fun h => h0 (HI.out.2 h)
            simp; omega
        case measure =>
          simp only [World.iterPos, hit2, hit]
          omega
    · have hnx := rune_end wr w.heap.size s pos hit hp
      have HD := Lib.hid (HA.out.done hp)
      go_wp2
      go_ret3
      refine ⟨⟨0, 0, 2, rfl, .inr ⟨?_, rfl, rfl, rfl⟩⟩, hbw⟩
      rw [← HD.out]
      have := HN.out
      omega

end Go.Proofs.Ytpmelloanohlkaa
