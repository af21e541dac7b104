/-
  The walks through TakeText and PutText, and their references; works.
-/
import Derived.Test.YtllecjhfbojgcaaBytesNums
import Derived.Test.YtllecjhfbojgcaaShelf
namespace Go.Proofs.Ytllecjhfbojgcaa
open Go.RowKit
set_option maxRecDepth 20000

theorem mk_data (s : ByteArray) : (⟨s.data.toList.toArray⟩ : ByteArray) = s := by
  cases s; simp

theorem data_empty : (⟨#[]⟩ : ByteArray).data.toList = [] := rfl

theorem mk_eq (s : ByteArray) (l : List UInt8) (h : s.data.toList = l) : s = ⟨l.toArray⟩ := by rw [← h, mk_data]

def TextSays (l : List UInt8) (w : World) (e : Ending) (w' : World) : Prop :=
  e = .returned (.tuple #[.string ⟨(Cl.takeText l).1.toArray⟩, .int .i64 ((Cl.takeText l).2.1 : Nat), .int .i64 (Cl.takeText l).2.2]) ∧ w = w'

theorem text_says {l t : List UInt8} {w : World} {tb : ByteArray} {k : Nat} {x : Int} (h : Cl.takeText l = (t, k, x)) (ht : tb.data.toList = t) : TextSays l w (.returned (.tuple #[.string tb, .int .i64 k, .int .i64 x])) w := by
  unfold TextSays
  rw [h, mk_eq tb t ht]
  exact ⟨rfl, rfl⟩

theorem cut_data (s : ByteArray) (a b : Nat) : (s.extract a (a + b)).data.toList = (s.data.toList.drop a).take b := by
  rw [Lib.extract_data, Nat.add_sub_cancel_left]

theorem text_cases (l : List UInt8) (n : Int) (k : Nat) (x : Int) (h : Cl.take l = (n, k, x)) :
    (x ≠ 0 → Cl.takeText l = ([], 0, x)) ∧ (x = 0 → n < 0 → Cl.takeText l = ([], 0, 21)) ∧ (x = 0 → 65536 < n → Cl.takeText l = ([], 0, 3)) ∧
    (x = 0 → 0 ≤ n → n ≤ 65536 → (l.length : Int) - k < n → Cl.takeText l = ([], 0, 20)) ∧ (x = 0 → 0 ≤ n → n ≤ 65536 → n ≤ (l.length : Int) - k → Cl.takeText l = ((l.drop k).take n.toNat, k + n.toNat, 0)) := by
  unfold Cl.takeText
  rw [h]
  refine ⟨fun h1 => ?_, fun h1 h2 => ?_, fun h1 h2 => ?_, fun h1 h2 h3 h4 => ?_, fun h1 h2 h3 h4 => ?_⟩
  · rw [if_pos h1]
  · rw [if_neg (by simp only; omega), if_pos h2]
  · rw [if_neg (by simp only; omega), if_neg (by simp only; omega), if_pos h2]
  · rw [if_neg (by simp only; omega), if_neg (by simp only; omega), if_neg (by simp only; omega), if_pos h4]
  · rw [if_neg (by simp only; omega), if_neg (by simp only; omega), if_neg (by simp only; omega), if_neg (by simp only; omega)]

set_option maxHeartbeats 1000000 in
theorem taketext_any (s : ByteArray) (w : World) (hs : s.size ≤ 1000000) :
    Calls Try.prog 115 #[.string s] w (TextSays s.data.toList w) := by
  obtain ⟨n, k, x, hnk⟩ : ∃ n k x, Cl.take s.data.toList = (n, k, x) := ⟨_, _, _, rfl⟩
  obtain ⟨c1, c2, c3, c4, c5⟩ := text_cases _ n k x hnk
  rw [len_data] at c4 c5
  have HT := Lib.hid hnk
  by_cases hx : x = 0
  · subst hx
    obtain ⟨-, hkl, hk1, -, -, -, -, -, -⟩ := Cl.take_ok _ _ _ hnk
    rw [len_data] at hkl
    clear hnk c1
    by_cases hneg : n < 0
    · have HF := Lib.hid (c2 rfl hneg)
      clear c2 c3 c4 c5
      go_enter Try.func115, Try.ntmps115
      go_wp2_with fail
      refine (take_says s n k 0 _ HT.out).mono ?_
      rintro e w' ⟨rfl, rfl⟩
      go_wp2_with fail
      go_ret3
      exact text_says HF.out data_empty
    · by_cases hbig : 65536 < n
      · have HF := Lib.hid (c3 rfl hbig)
        clear c2 c3 c4 c5
        go_enter Try.func115, Try.ntmps115
        go_wp2_with fail
        refine (take_says s n k 0 _ HT.out).mono ?_
        rintro e w' ⟨rfl, rfl⟩
        go_wp2_with fail
        go_ret3
        exact text_says HF.out data_empty
      · by_cases hsh : (s.size : Int) - k < n
        · have HF := Lib.hid (c4 rfl (by omega) (by omega) hsh)
          clear c2 c3 c4 c5
          go_enter Try.func115, Try.ntmps115
          go_wp2_with fail
          refine (take_says s n k 0 _ HT.out).mono ?_
          rintro e w' ⟨rfl, rfl⟩
          go_wp2_with fail
          go_ret3
          exact text_says HF.out data_empty
        · have HF := Lib.hid (c5 rfl (by omega) (by omega) (by omega))
          obtain ⟨m, rfl⟩ : ∃ m : Nat, n = m := ⟨n.toNat, by omega⟩
          clear c2 c3 c4 c5
          go_enter Try.func115, Try.ntmps115
          go_wp2_with fail
          refine (take_says s m k 0 _ HT.out).mono ?_
          rintro e w' ⟨rfl, rfl⟩
          go_wp2_with fail
          go_ret3
          exact text_says (k := k + m) HF.out (cut_data s k m)
  · have HF := Lib.hid (c1 hx)
    have hxb : (x != 0) = true := by simpa using hx
    clear c1 c2 c3 c4 c5 hnk hx
    go_enter Try.func115, Try.ntmps115
    go_wp2_with fail
    refine (take_says s n k x _ HT.out).mono ?_
    rintro e w' ⟨rfl, rfl⟩
    go_wp2_with fail
    go_ret3
    exact text_says HF.out data_empty


set_option maxHeartbeats 1000000 in
theorem reftaketext_any (s : ByteArray) (w : World) (hs : s.size ≤ 1000000) :
    Calls Try.prog 118 #[.string s] w (TextSays s.data.toList w) := by
  obtain ⟨n, k, x, hnk⟩ : ∃ n k x, Cl.take s.data.toList = (n, k, x) := ⟨_, _, _, rfl⟩
  obtain ⟨c1, c2, c3, c4, c5⟩ := text_cases _ n k x hnk
  rw [len_data] at c4 c5
  have HT := Lib.hid hnk
  by_cases hx : x = 0
  · subst hx
    obtain ⟨-, hkl, hk1, -, -, -, -, -, -⟩ := Cl.take_ok _ _ _ hnk
    rw [len_data] at hkl
    clear hnk c1
    by_cases hneg : n < 0
    · have HF := Lib.hid (c2 rfl hneg)
      clear c2 c3 c4 c5
      go_enter Try.func118, Try.ntmps118
      go_wp2_with fail
      refine (reftake_says s n k 0 _ HT.out).mono ?_
      rintro e w' ⟨rfl, rfl⟩
      go_wp2_with fail
      go_ret3
      exact text_says HF.out data_empty
    · by_cases hbig : 65536 < n
      · have HF := Lib.hid (c3 rfl hbig)
        clear c2 c3 c4 c5
        go_enter Try.func118, Try.ntmps118
        go_wp2_with fail
        refine (reftake_says s n k 0 _ HT.out).mono ?_
        rintro e w' ⟨rfl, rfl⟩
        go_wp2_with fail
        go_ret3
        exact text_says HF.out data_empty
      · obtain ⟨m, rfl⟩ : ∃ m : Nat, n = m := ⟨n.toNat, by omega⟩
        by_cases hsh : (s.size : Int) - k < m
        · have HF := Lib.hid (c4 rfl (by omega) (by omega) hsh)
          have hm2 : s.size < k + m := by omega
          clear c2 c3 c4 c5 hsh
          go_enter Try.func118, Try.ntmps118
          go_wp2_with fail
          refine (reftake_says s m k 0 _ HT.out).mono ?_
          rintro e w' ⟨rfl, rfl⟩
          go_wp2_with fail
          go_ret3
          exact text_says HF.out data_empty
        · have HF := Lib.hid (c5 rfl (by omega) (by omega) (by omega))
          have hm2 : k + m ≤ s.size := by omega
          clear c2 c3 c4 c5 hsh
          go_enter Try.func118, Try.ntmps118
          go_wp2_with fail
          refine (reftake_says s m k 0 _ HT.out).mono ?_
          rintro e w' ⟨rfl, rfl⟩
          go_wp2_with fail
          go_ret3
          exact text_says (k := k + m) HF.out (cut_data s k m)
  · have HF := Lib.hid (c1 hx)
    have hxb : (x != 0) = true := by simpa using hx
    clear c1 c2 c3 c4 c5 hnk hx
    go_enter Try.func118, Try.ntmps118
    go_wp2_with fail
    refine (reftake_says s n k x _ HT.out).mono ?_
    rintro e w' ⟨rfl, rfl⟩
    go_wp2_with fail
    go_ret3
    exact text_says HF.out data_empty

/-- What PutText answers. -/
def PutSays (l : List UInt8) (w : World) (e : Ending) (w' : World) : Prop :=
  (65536 < l.length → e = .returned (.tuple #[.string ⟨#[]⟩, .int .i64 3])) ∧ (l.length ≤ 65536 → e = .returned (.tuple #[.string ⟨(Cl.putText l).toArray⟩, .int .i64 0])) ∧ Below w.heap.size w w'

theorem put_one_any (n : Int) (w : World) (m : Nat) (hm : m = w.heap.size) (hn : Cl.In64 n) :
    Calls Try.prog 49 #[.slice (some ⟨m, 0, none⟩) 1 1] (w.alloc (.cells #[.int .i64 n] 2)) fun e w' => e = .returned (.string ⟨(Cl.vint (Cl.zig n)).toArray⟩) ∧ Below w.heap.size w w' := by
  subst hm
  refine (put_any w.heap.size 0 1 [n] _ (by simp) ?_ (by simp) (by simp) (by simpa using hn)).mono ?_
  · intro i x h
    rw [Nat.zero_add]
    match i, h with
    | 0, h => simp at h; subst h; exact cell_row w _ _ 0 _ (by simp)
    | i + 1, h => simp at h
  · rintro e w' ⟨rfl, hb⟩
    exact ⟨by rw [Cl.put_one], bel_trans (bel_alloc _ _) hb⟩

theorem join_two (x y : ByteArray) (w : World) (m : Nat) (hm : m = w.heap.size) (hl : x.size + y.size ≤ 140737488355328) :
    Calls Try.prog 116 #[.slice (some ⟨m, 0, none⟩) 2 2, .string ⟨#[]⟩] (w.alloc (.cells #[.string x, .string y] 9)) fun e w' => e = .returned (.string ⟨(x.data.toList ++ y.data.toList).toArray⟩) ∧ Below w.heap.size w w' := by
  subst hm
  have hj : Lib.join ([x, y].map (·.data.toList)) (⟨#[]⟩ : ByteArray).data.toList = x.data.toList ++ y.data.toList := by
    rw [data_empty]
    simp [Lib.join, List.intercalate]
  refine (Try.strings_Join w.heap.size 0 2 [x, y] ⟨#[]⟩ _ ?_ (by simp) (by simp) (by simp) (by rw [hj, List.length_append, len_data, len_data]; exact hl)).mono ?_
  · intro i s h
    rw [Nat.zero_add]
    match i, h with
    | 0, h => simp at h; subst h; exact cell_row w _ _ 0 _ (by simp)
    | 1, h => simp at h; subst h; exact cell_row w _ _ 1 _ (by simp)
    | i + 2, h => simp at h
  · rintro e w' ⟨rfl, hb⟩
    exact ⟨by rw [hj], bel_trans (bel_alloc _ _) hb⟩

set_option maxHeartbeats 1000000 in
theorem puttext_any (s : ByteArray) (w : World) (hs : s.size ≤ 140737488351232) :
    Calls Try.prog 104 #[.string s] w (PutSays s.data.toList w) := by
  by_cases hbig : 65536 < s.size
  · have hd : decide ((65536 : Int) < s.size) = true := by simp; omega
    have HB := Lib.hid hbig
    clear hbig hs
    go_enter Try.func104, Try.ntmps104
    go_wp2_with fail
    go_ret2
    exact ⟨fun _ => rfl, fun h => absurd h (by rw [len_data]; have := HB.out; omega), Below.refl _ _⟩
  · have hd : decide ((65536 : Int) < s.size) = false := by simp; omega
    have hsz : s.size ≤ 65536 := by omega
    have hvl := Cl.vint_len (Cl.zig s.size)
    have HS := Lib.hid hsz
    have HV := Lib.hid hvl
    clear hbig hs hsz hvl
    go_enter Try.func104, Try.ntmps104
    go_wp2_with fail
    refine (put_one_any s.size w _ rfl (by have := HS.out; constructor <;> omega)).mono ?_
    rintro e w1 ⟨rfl, hb1⟩
    go_wp2_with fail
    refine (join_two _ s _ _ rfl (by have := HS.out; have := HV.out; rw [size_mk]; omega)).mono ?_
    rintro e w2 ⟨rfl, hb2⟩
    go_wp2_with fail
    go_ret2
    refine ⟨fun h => absurd h (by rw [len_data]; have := HS.out; omega), fun _ => ?_, bel_trans hb1 hb2⟩
    unfold Cl.putText
    rw [len_data]
    rfl

set_option maxHeartbeats 1000000 in
theorem refputtext_any (s : ByteArray) (w : World) (hs : s.size ≤ 140737488351232) :
    Calls Try.prog 112 #[.string s] w (PutSays s.data.toList w) := by
  by_cases hbig : 65536 < s.size
  · have hd : decide ((65536 : Int) < s.size) = true := by simp; omega
    have HB := Lib.hid hbig
    clear hbig hs
    go_enter Try.func112, Try.ntmps112
    go_wp2_with fail
    go_ret2
    exact ⟨fun _ => rfl, fun h => absurd h (by rw [len_data]; have := HB.out; omega), Below.refl _ _⟩
  · have hd : decide ((65536 : Int) < s.size) = false := by simp; omega
    have hsz : s.size ≤ 65536 := by omega
    have hvl := (Cl.vint_len (Cl.zig s.size)).2
    have hin : Cl.In64 (s.size : Int) := by constructor <;> omega
    have HI := Lib.hid hin
    clear hbig hs hin
    generalize hy : Cl.vint (Cl.zig s.size) = y at *
    have HY := Lib.hid hy
    clear hy
    go_enter Try.func112, Try.ntmps112
    go_wp2_with fail
    refine (one_any s.size w HI.out).mono ?_
    rintro e w1 ⟨rfl, hb1⟩
    rw [HY.out]
    go_wp2_with fail
    go_ret2
    refine ⟨fun h => absurd h (by rw [len_data]; omega), fun _ => ?_, hb1⟩
    unfold Cl.putText
    rw [len_data, HY.out]
    have e : (⟨y.toArray⟩ : ByteArray) ++ s = ⟨(y ++ s.data.toList).toArray⟩ := by
      have := mk_append y s.data.toList
      rw [mk_data] at this
      exact this
    rw [← e]
    rfl

end Go.Proofs.Ytllecjhfbojgcaa
