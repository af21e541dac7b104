/-
  The walks through the reference of layer 2.
-/
import Derived.Test.YtdkhidajmhmjpaaBytesConv
import Derived.Lib.Strings
import Derived.Test.YtdkhidajmhmjpaaShelf
namespace Go.Proofs.Ytdkhidajmhmjpaa
open Go.RowKit
set_option maxRecDepth 20000

/-- One byte as a string. -/
theorem one_byte (w : World) (x : Int) (c : UInt8) (hx : x = (c.toNat : Int)) :
    (convert 73 9 (.slice (some ⟨w.heap.size, 0, none⟩) 1 1)).run Try.prog (w.alloc (.cells #[.int .u8 x] 5)) = .ok (.string ⟨#[c]⟩) (w.alloc (.cells #[.int .u8 x] 5)) := by
  subst hx
  refine string_of_bytes Try.prog _ 73 9 5 w.heap.size 0 1 1 [c] rfl Try.underlying73 Try.underlying5 Try.underlying9 ?_
  intro j hj
  have hj0 : j = 0 := by simpa using hj
  subst hj0
  exact cell_row w _ _ 0 _ (by simp)

theorem mk_append (a b : List UInt8) : (⟨a.toArray⟩ : ByteArray) ++ ⟨b.toArray⟩ = ⟨(a ++ b).toArray⟩ := by
  apply ByteArray.ext
  simp

theorem str_at (s : ByteArray) (k : Nat) (h : k < s.size) : s.data.toList[k]? = some s[k] := by
  simp [h]; rfl

theorem dig_drop (l : List UInt8) (j : Nat) (c : UInt8) (h : l[j]? = some c) : Cl.dig (l.drop j) = c.toNat % 128 + 128 * Cl.dig (l.drop (j + 1)) := by
  have hl : j < l.length := (List.getElem?_eq_some_iff.1 h).1
  rw [List.drop_eq_getElem_cons hl, Cl.dig]
  have : l[j] = c := by
    rw [List.getElem?_eq_getElem hl] at h
    exact Option.some.inj h
  rw [this]

theorem dig_drop_le : ∀ (j : Nat) (l : List UInt8), Cl.dig (l.drop j) ≤ Cl.dig l
  | 0, l => by simp
  | j + 1, [] => by simp
  | j + 1, c :: l => by
    rw [List.drop_succ_cons, Cl.dig]
    have := dig_drop_le j l
    omega

end Go.Proofs.Ytdkhidajmhmjpaa

/-
  The walks through bytes.Numbers and its reference.
-/
namespace Go.Proofs.Ytdkhidajmhmjpaa
open Go.RowKit
set_option maxRecDepth 20000

theorem take_says (s : ByteArray) (n : Int) (k : Nat) (x : Int) (w : World) (h : Cl.take s.data.toList = (n, k, x)) :
    Calls Try.prog 43 #[.string s] w fun e w' => e = .returned (.tuple #[.int .i64 n, .int .i64 k, .int .i64 x]) ∧ w = w' := by
  refine (take_any s w).mono fun e w' ht => ?_
  unfold TakeSays at ht
  rw [h] at ht
  exact ht

def NumsSays (l : List UInt8) (w : World) (e : Ending) (w' : World) : Prop :=
  ∃ v, e = .returned (.tuple #[v, .int .i64 (Cl.nums l).2]) ∧ Reads w' v (Cl.nums l).1.length (ints (Cl.nums l).1) ∧ Below w.heap.size w w'

theorem nums_says {l : List UInt8} {w w' : World} {v : Value} {r : List Int} {x : Int} (h : (r, x) = Cl.nums l) (hr : Reads w' v r.length (ints r)) (hb : Below w.heap.size w w') : NumsSays l w (.returned (.tuple #[v, .int .i64 x])) w' := by
  refine ⟨v, ?_, ?_, hb⟩
  · rw [← h]
  · rw [← h]; exact hr

theorem infoI64 : (Try.prog.info? 2).map (fun i => (i.zero, i.size, i.bytes)) = some (some (.int .i64 0), 1, 8) := by kernel_rfl

theorem data_nil (t : ByteArray) (h : t.size = 0) : t.data.toList = [] := List.eq_nil_of_length_eq_zero (by rw [len_data]; exact h)
theorem data_ne (t : ByteArray) (h : 0 < t.size) : t.data.toList ≠ [] := by
  intro e
  have := len_data t
  rw [e] at this
  simp at this
  omega

theorem drop_data (t : ByteArray) (k : Nat) : (t.extract k t.size).data.toList = t.data.toList.drop k := by
  rw [Lib.extract_data]
  rw [List.take_of_length_le (by simp)]

theorem extract_size (t : ByteArray) (k : Nat) : (t.extract k t.size).size = t.size - k := by
  simp

end Go.Proofs.Ytdkhidajmhmjpaa

/-
  The walks through TakeText and PutText, and their references; works.
-/
namespace Go.Proofs.Ytdkhidajmhmjpaa
open Go.RowKit
set_option maxRecDepth 20000

theorem mk_data (s : ByteArray) : (⟨s.data.toList.toArray⟩ : ByteArray) = s := by
  cases s; simp

theorem data_empty : (⟨#[]⟩ : ByteArray).data.toList = [] := rfl

theorem mk_eq (s : ByteArray) (l : List UInt8) (h : s.data.toList = l) : s = ⟨l.toArray⟩ := by rw [← h, mk_data]

def TextSays (l : List UInt8) (w : World) (e : Ending) (w' : World) : Prop :=
  e = .returned (.tuple #[.string ⟨(Cl.takeText l).1.toArray⟩, .int .i64 ((Cl.takeText l).2.1 : Nat), .int .i64 (Cl.takeText l).2.2]) ∧ w = w'

theorem text_says {l t : List UInt8} {w : World} {tb : ByteArray} {k : Nat} {x : Int} (h : Cl.takeText l = (t, k, x)) (ht : tb.data.toList = t) : TextSays l w (.returned (.tuple #[.string tb, .int .i64 k, .int .i64 x])) w := by
  unfold TextSays
  rw [h, mk_eq tb t ht]
  exact ⟨rfl, rfl⟩

theorem cut_data (s : ByteArray) (a b : Nat) : (s.extract a (a + b)).data.toList = (s.data.toList.drop a).take b := by
  rw [Lib.extract_data, Nat.add_sub_cancel_left]

theorem text_cases (l : List UInt8) (n : Int) (k : Nat) (x : Int) (h : Cl.take l = (n, k, x)) :
    (x ≠ 0 → Cl.takeText l = ([], 0, x)) ∧ (x = 0 → n < 0 → Cl.takeText l = ([], 0, 21)) ∧ (x = 0 → 65536 < n → Cl.takeText l = ([], 0, 3)) ∧
    (x = 0 → 0 ≤ n → n ≤ 65536 → (l.length : Int) - k < n → Cl.takeText l = ([], 0, 20)) ∧ (x = 0 → 0 ≤ n → n ≤ 65536 → n ≤ (l.length : Int) - k → Cl.takeText l = ((l.drop k).take n.toNat, k + n.toNat, 0)) := by
  unfold Cl.takeText
  rw [h]
  refine ⟨fun h1 => ?_, fun h1 h2 => ?_, fun h1 h2 => ?_, fun h1 h2 h3 h4 => ?_, fun h1 h2 h3 h4 => ?_⟩
  · rw [if_pos h1]
  · rw [if_neg (by simp only; omega), if_pos h2]
  · rw [if_neg (by simp only; omega), if_neg (by simp only; omega), if_pos h2]
  · rw [if_neg (by simp only; omega), if_neg (by simp only; omega), if_neg (by simp only; omega), if_pos h4]
  · rw [if_neg (by simp only; omega), if_neg (by simp only; omega), if_neg (by simp only; omega), if_neg (by simp only; omega)]

set_option maxHeartbeats 1000000 in
theorem taketext_any (s : ByteArray) (w : World) (hs : s.size ≤ 1000000) :
    Calls Try.prog 39 #[.string s] w (TextSays s.data.toList w) := by
  obtain ⟨n, k, x, hnk⟩ : ∃ n k x, Cl.take s.data.toList = (n, k, x) := ⟨_, _, _, rfl⟩
  obtain ⟨c1, c2, c3, c4, c5⟩ := text_cases _ n k x hnk
  rw [len_data] at c4 c5
  have HT := Lib.hid hnk
  by_cases hx : x = 0
  · subst hx
    obtain ⟨-, hkl, hk1, -, -, -, -, -, -⟩ := Cl.take_ok _ _ _ hnk
    rw [len_data] at hkl
    clear hnk c1
    by_cases hneg : n < 0
    · have HF := Lib.hid (c2 rfl hneg)
      clear c2 c3 c4 c5
      go_enter Try.func39, Try.ntmps39
      go_wp2_with fail
      refine (take_says s n k 0 _ HT.out).mono ?_
      rintro e w' ⟨rfl, rfl⟩
      go_wp2_with fail
      go_ret3
      exact text_says HF.out data_empty
    · by_cases hbig : 65536 < n
      · have HF := Lib.hid (c3 rfl hbig)
        clear c2 c3 c4 c5
        go_enter Try.func39, Try.ntmps39
        go_wp2_with fail
        refine (take_says s n k 0 _ HT.out).mono ?_
        rintro e w' ⟨rfl, rfl⟩
        go_wp2_with fail
        go_ret3
        exact text_says HF.out data_empty
      · by_cases hsh : (s.size : Int) - k < n
        · have HF := Lib.hid (c4 rfl (by omega) (by omega) hsh)
          clear c2 c3 c4 c5
          go_enter Try.func39, Try.ntmps39
          go_wp2_with fail
          refine (take_says s n k 0 _ HT.out).mono ?_
          rintro e w' ⟨rfl, rfl⟩
          go_wp2_with fail
          go_ret3
          exact text_says HF.out data_empty
        · have HF := Lib.hid (c5 rfl (by omega) (by omega) (by omega))
          obtain ⟨m, rfl⟩ : ∃ m : Nat, n = m := ⟨n.toNat, by omega⟩
          clear c2 c3 c4 c5
          go_enter Try.func39, Try.ntmps39
          go_wp2_with fail
          refine (take_says s m k 0 _ HT.out).mono ?_
          rintro e w' ⟨rfl, rfl⟩
          go_wp2_with fail
          go_ret3
          exact text_says (k := k + m) HF.out (cut_data s k m)
  · have HF := Lib.hid (c1 hx)
    have hxb : (x != 0) = true := by simpa using hx
    clear c1 c2 c3 c4 c5 hnk hx
    go_enter Try.func39, Try.ntmps39
    go_wp2_with fail
    refine (take_says s n k x _ HT.out).mono ?_
    rintro e w' ⟨rfl, rfl⟩
    go_wp2_with fail
    go_ret3
    exact text_says HF.out data_empty


/-- What PutText answers. -/
def PutSays (l : List UInt8) (w : World) (e : Ending) (w' : World) : Prop :=
  (65536 < l.length → e = .returned (.tuple #[.string ⟨#[]⟩, .int .i64 3])) ∧ (l.length ≤ 65536 → e = .returned (.tuple #[.string ⟨(Cl.putText l).toArray⟩, .int .i64 0])) ∧ Below w.heap.size w w'

theorem put_one_any (n : Int) (w : World) (m : Nat) (hm : m = w.heap.size) (hn : Cl.In64 n) :
    Calls Try.prog 41 #[.slice (some ⟨m, 0, none⟩) 1 1] (w.alloc (.cells #[.int .i64 n] 2)) fun e w' => e = .returned (.string ⟨(Cl.vint (Cl.zig n)).toArray⟩) ∧ Below w.heap.size w w' := by
  subst hm
  refine (put_any w.heap.size 0 1 [n] _ (by simp) ?_ (by simp) (by simp) (by simpa using hn)).mono ?_
  · intro i x h
    rw [Nat.zero_add]
    match i, h with
    | 0, h => simp at h; subst h; exact cell_row w _ _ 0 _ (by simp)
    | i + 1, h => simp at h
  · rintro e w' ⟨rfl, hb⟩
    exact ⟨by rw [Cl.put_one], bel_trans (bel_alloc _ _) hb⟩

theorem join_two (x y : ByteArray) (w : World) (m : Nat) (hm : m = w.heap.size) (hl : x.size + y.size ≤ 140737488355328) :
    Calls Try.prog 40 #[.slice (some ⟨m, 0, none⟩) 2 2, .string ⟨#[]⟩] (w.alloc (.cells #[.string x, .string y] 9)) fun e w' => e = .returned (.string ⟨(x.data.toList ++ y.data.toList).toArray⟩) ∧ Below w.heap.size w w' := by
  subst hm
  have hj : Lib.join ([x, y].map (·.data.toList)) (⟨#[]⟩ : ByteArray).data.toList = x.data.toList ++ y.data.toList := by
    rw [data_empty]
    simp [Lib.join, List.intercalate]
  refine (Try.strings_Join w.heap.size 0 2 [x, y] ⟨#[]⟩ _ ?_ (by simp) (by simp) (by simp) (by rw [hj, List.length_append, len_data, len_data]; exact hl)).mono ?_
  · intro i s h
    rw [Nat.zero_add]
    match i, h with
    | 0, h => simp at h; subst h; exact cell_row w _ _ 0 _ (by simp)
    | 1, h => simp at h; subst h; exact cell_row w _ _ 1 _ (by simp)
    | i + 2, h => simp at h
  · rintro e w' ⟨rfl, hb⟩
    exact ⟨by rw [hj], bel_trans (bel_alloc _ _) hb⟩

set_option maxHeartbeats 1000000 in
theorem puttext_any (s : ByteArray) (w : World) (hs : s.size ≤ 140737488351232) :
    Calls Try.prog 29 #[.string s] w (PutSays s.data.toList w) := by
  by_cases hbig : 65536 < s.size
  · have hd : decide ((65536 : Int) < s.size) = true := by simp; omega
    have HB := Lib.hid hbig
    clear hbig hs
    go_enter Try.func29, Try.ntmps29
    go_wp2_with fail
    go_ret2
    exact ⟨fun _ => rfl, fun h => absurd h (by rw [len_data]; have := HB.out; omega), Below.refl _ _⟩
  · have hd : decide ((65536 : Int) < s.size) = false := by simp; omega
    have hsz : s.size ≤ 65536 := by omega
    have hvl := Cl.vint_len (Cl.zig s.size)
    have HS := Lib.hid hsz
    have HV := Lib.hid hvl
    clear hbig hs hsz hvl
    go_enter Try.func29, Try.ntmps29
    go_wp2_with fail
    refine (put_one_any s.size w _ rfl (by have := HS.out; constructor <;> omega)).mono ?_
    rintro e w1 ⟨rfl, hb1⟩
    go_wp2_with fail
    refine (join_two _ s _ _ rfl (by have := HS.out; have := HV.out; rw [size_mk]; omega)).mono ?_
    rintro e w2 ⟨rfl, hb2⟩
    go_wp2_with fail
    go_ret2
    refine ⟨fun h => absurd h (by rw [len_data]; have := HS.out; omega), fun _ => ?_, bel_trans hb1 hb2⟩
    unfold Cl.putText
    rw [len_data]
    rfl

end Go.Proofs.Ytdkhidajmhmjpaa

/-
  The walks through the statements of layer 2.
-/
namespace Go.Proofs.Ytdkhidajmhmjpaa
open Go.RowKit
set_option maxRecDepth 20000

theorem putR_any (v : Value) (ns : List Int) (w : World) (hr : Reads w v ns.length (ints ns)) (hn : ns.length ≤ 1000000) (hi : ∀ n ∈ ns, Cl.In64 n) :
    Calls Try.prog 41 #[v] w fun e w' => e = .returned (.string ⟨(Cl.put ns).toArray⟩) ∧ Below w.heap.size w w' := by
  by_cases h0 : ns.length = 0
  · have hx0 : ns = [] := List.eq_nil_of_length_eq_zero h0
    subst hx0
    obtain ⟨a, c, rfl⟩ := hr.shape
    exact (put_nil a c w).mono fun e w' ⟨h1, h2⟩ => ⟨h1, by rw [← h2]; exact Below.refl _ _⟩
  · obtain ⟨b, off, cap, rfl, _, _, hlt, hc⟩ := hr.some (by omega)
    exact put_any b off cap ns w hlt (ints_cell hc) (by omega) hn hi

theorem nums_w : Cl.nums [1, 128, 1] = ([-1, 64], 0) := by decide
theorem put_w : Cl.put [-1, 64] = [1, 128, 1] := by decide

end Go.Proofs.Ytdkhidajmhmjpaa
